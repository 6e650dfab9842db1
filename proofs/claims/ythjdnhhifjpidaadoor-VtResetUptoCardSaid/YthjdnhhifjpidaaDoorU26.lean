import Derived.Test.YthjdnhhifjpidaaDoorU25
set_option linter.unusedVariables false
set_option linter.unusedSimpArgs false
set_option maxRecDepth 100000
namespace Go.Proofs.YthjdnhhifjpidaaDoor.M
open Go Go.Hp

/-! ### The rest of what bytes do, as plain data -/
def stopsL (w : Int) : Nat → Int → List Bool → List Bool
  | 0, _, l => l
  | q + 1, i, l => if i < w then stopsL w q (i + 8) (l.set i.toNat true) else l
theorem stopsL_len (w : Int) : ∀ (q : Nat) (i : Int) (l : List Bool), (stopsL w q i l).length = l.length
  | 0, _, l => rfl
  | q + 1, i, l => by
    unfold stopsL
    split
    · rw [stopsL_len, List.length_set]
    · rfl
def stopsW (w : Int) : List Bool := stopsL w w.toNat 8 (List.replicate w.toNat false)
def stopsV (S : Scr) : Scr := { S with tabs := stopsW S.w }
def bare (w h most : Int) (past : List (List Gl)) (bells : Int) (answer : ByteArray) : Scr :=
  ⟨w, h, most, [], none, [], none, false, past, pl0, 0, h - 1, [], false, false, true, false, false, false, ⟨#[]⟩, bells, answer, 0, [], false, 0, 0, 0, 0, 0, 0, 0⟩
def resetV (S : Scr) : Scr := stopsV { bare S.w S.h S.most S.past S.bells S.answer with main := sheetV S.w S.h 0 0 0 }
theorem sheetV_dim {w h : Int} (f b m : Int) (w0 : 1 ≤ w) (h0 : 1 ≤ h) : ((sheetV w h f b m).length : Int) = h ∧ ∀ g ∈ sheetV w h f b m, (g.length : Int) = w := by
  refine ⟨?_, fun g hg => ?_⟩
  · show ((List.replicate h.toNat _).length : Int) = h
    rw [List.length_replicate]; omega
  · have : g = List.replicate w.toNat (blankG f b m) := (List.mem_replicate.1 (show g ∈ List.replicate h.toNat _ from hg)).2
    rw [this, List.length_replicate]; omega
theorem ok_reset {S : Scr} (w0 : 1 ≤ S.w) (w1 : S.w ≤ 1000) (h0 : 1 ≤ S.h) (h1 : S.h ≤ 1000) (m0 : 0 ≤ S.most) (m1 : S.most ≤ 2000) (hp : (S.past.length : Int) ≤ S.most) (ha : S.answer.size ≤ 4096) : Ok (resetV S) := by
  refine ⟨⟨w0, w1, h0, h1, m0, m1, hp, sheetV_dim 0 0 0 w0 h0, fun hh => by cases hh⟩, ⟨⟨Int.le_refl _, w0, Int.le_refl _, h0⟩, Int.le_refl _, ?_, ?_, ?_, by simp [resetV, stopsV, bare], ha, Int.le_refl _, fun hh => ?_, (fun q hq => by cases hq), (fun q hq => by cases hq)⟩⟩
  · show (0 : Int) ≤ S.h - 1
    omega
  · show S.h - 1 < S.h
    omega
  · show ((stopsW S.w).length : Int) = S.w
    unfold stopsW
    rw [stopsL_len, List.length_replicate]
    omega
  · exact absurd hh (show ¬ (0 : Int) < 0 by decide)
theorem Ok.reset {S : Scr} (o : Ok S) : Ok (resetV S) := ok_reset o.d.w0 o.d.w1 o.d.h0 o.d.h1 o.d.m0 o.d.m1 o.d.past o.c.ans
theorem Fx.reset {R S : Scr} (f : Fx R S) : Fx R (resetV S) := ⟨f.w, f.h, f.most, f.bells, fun _ => ⟨by show (0 : Int) ≤ 0; decide, by show (0 : Int) ≤ 255; decide⟩⟩
def eG : Gl := (⟨#[69]⟩, 1, 0, 0, 0)
def allEL : Nat → Nat → Scr → Scr
  | 0, _, S => S
  | q + 1, i, S => allEL q (i + 1) (S.setAt i (List.replicate (S.sh.getD i []).length eG))
def allE (S : Scr) : Scr := allEL S.h.toNat 0 S
def whole (S : Scr) : Scr := { S with top := 0, bottom := S.h - 1 }
theorem Ok.allEL : ∀ (q i : Nat) (S : Scr), Ok S → ((i + q : Nat) : Int) ≤ S.h → Ok (allEL q i S)
  | 0, _, S, o, _ => o
  | q + 1, i, S, o, hi => by
    have hg := o.getAt (y := i) (by omega)
    exact Ok.allEL q (i + 1) _ (o.setAt (by rw [List.length_replicate]; exact hg)) (by rw [show (S.setAt i _).h = S.h from (setSh_w S _).2.2]; omega)
theorem Ok.allE {S : Scr} (o : Ok S) : Ok (allE S) := Ok.allEL _ 0 S o (by have := o.d.h0; omega)
theorem Fx.allEL {R : Scr} : ∀ (q i : Nat) (S : Scr), Fx R S → Fx R (allEL q i S)
  | 0, _, S, f => f
  | q + 1, i, S, f => Fx.allEL q (i + 1) _ (f.setSh _)
theorem Ok.whole {S : Scr} (o : Ok S) : Ok (whole S) := by
  have := o.d.h0
  refine ⟨⟨o.d.w0, o.d.w1, o.d.h0, o.d.h1, o.d.m0, o.d.m1, o.d.past, o.d.main, o.d.other⟩, ⟨o.c.p, Int.le_refl _, ?_, ?_, o.c.tabs, o.c.gath, o.c.ans, o.c.hv0, o.c.hv1, o.c.km, o.c.ko⟩⟩
  · show (0 : Int) ≤ S.h - 1
    omega
  · show S.h - 1 < S.h
    omega
def escaped1 (S : Scr) (b : Int) : Scr :=
  if S.gathered.getD 0 0 = 40 then S.setPl { S.pl with l0 := decide (b = 48) } else
  if S.gathered.getD 0 0 = 41 then S.setPl { S.pl with l1 := decide (b = 48) } else
  if S.gathered.getD 0 0 = 35 ∧ b = 56 then toV (whole (allE S)) 0 0 else S
def escaped0 (S : Scr) (b : Int) : Scr :=
  if b = 55 then keepCursorV S else if b = 56 then backCursorV S else if b = 69 then feedV (setX S 0) else if b = 68 then feedV S else
  if b = 77 then (if S.pl.y = S.top then unwait (downV S S.top S.bottom 1) else toV S S.pl.x (S.pl.y - 1)) else
  if b = 72 then setTab S S.pl.x true else if b = 99 then resetV S else S
def escapedV (S : Scr) (b : Int) : Scr := if S.gathered.length = 1 then escaped1 S b else if 0 < S.gathered.length then S else escaped0 S b
theorem Ok.setL0 {S : Scr} (o : Ok S) (b : Bool) : Ok (S.setPl { S.pl with l0 := b }) := Ok.setPl (p := { S.pl with l0 := b }) o ⟨o.c.p.x0, o.c.p.x1, o.c.p.y0, o.c.p.y1⟩
theorem Ok.setL1 {S : Scr} (o : Ok S) (b : Bool) : Ok (S.setPl { S.pl with l1 := b }) := Ok.setPl (p := { S.pl with l1 := b }) o ⟨o.c.p.x0, o.c.p.x1, o.c.p.y0, o.c.p.y1⟩
theorem Ok.escaped {S : Scr} (o : Ok S) (b : Int) : Ok (escapedV S b) := by
  unfold escapedV
  refine ite_ok (fun _ => ?_) (fun _ => ite_ok (fun _ => o) (fun _ => ?_))
  · unfold escaped1
    exact ite_ok (fun _ => o.setL0 _) (fun _ => ite_ok (fun _ => o.setL1 _) (fun _ => ite_ok (fun _ => o.allE.whole.to 0 0) (fun _ => o)))
  · unfold escaped0
    exact ite_ok (fun _ => o.keepCursor) (fun _ => ite_ok (fun _ => o.backCursor) (fun _ => ite_ok (fun _ => o.zeroX.feed) (fun _ => ite_ok (fun _ => o.feed) (fun _ => ite_ok (fun _ => ite_ok (fun _ => (o.down o.c.t0 o.c.tb o.c.bh).unwait) (fun _ => o.to _ _)) (fun _ => ite_ok (fun _ => o.setTab _ _) (fun _ => ite_ok (fun _ => o.reset) (fun _ => o)))))))
theorem Fx.escaped {R S : Scr} (f : Fx R S) (b : Int) : Fx R (escapedV S b) := by
  unfold escapedV
  refine ite_fx ?_ (ite_fx f ?_)
  · unfold escaped1
    have fa : Fx R (M.allE S) := Fx.allEL _ _ S f
    exact ite_fx (f.setPl _) (ite_fx (f.setPl _) (ite_fx (Fx.to (S := whole (M.allE S)) ⟨fa.w, fa.h, fa.most, fa.bells, fa.u⟩ 0 0) f))
  · unfold escaped0
    exact ite_fx f.keepCursor (ite_fx f.backCursor (ite_fx (f.setX 0).feed (ite_fx f.feed (ite_fx (ite_fx (f.down _ _ _).unwait (f.to _ _)) (ite_fx ⟨f.w, f.h, f.most, f.bells, f.u⟩ (ite_fx f.reset f))))))
def setState (S : Scr) (z : Int) : Scr := { S with state := z }
theorem Ok.setState {S : Scr} (o : Ok S) (z : Int) : Ok (setState S z) := ⟨⟨o.d.w0, o.d.w1, o.d.h0, o.d.h1, o.d.m0, o.d.m1, o.d.past, o.d.main, o.d.other⟩, ⟨o.c.p, o.c.t0, o.c.tb, o.c.bh, o.c.tabs, o.c.gath, o.c.ans, o.c.hv0, o.c.hv1, o.c.km, o.c.ko⟩⟩
theorem Fx.setState {R S : Scr} (f : Fx R S) (z : Int) : Fx R (M.setState S z) := ⟨f.w, f.h, f.most, f.bells, f.u⟩
theorem Ok.begin {S : Scr} (o : Ok S) (z : Int) : Ok (beginV S z) :=
  ⟨⟨o.d.w0, o.d.w1, o.d.h0, o.d.h1, o.d.m0, o.d.m1, o.d.past, o.d.main, o.d.other⟩, ⟨o.c.p, o.c.t0, o.c.tb, o.c.bh, o.c.tabs, by simp [beginV], o.c.ans, o.c.hv0, o.c.hv1, o.c.km, o.c.ko⟩⟩
theorem Fx.begin {R S : Scr} (f : Fx R S) (z : Int) : Fx R (beginV S z) := ⟨f.w, f.h, f.most, f.bells, f.u⟩
theorem Ok.gather {S : Scr} (o : Ok S) (b : Int) : Ok (gatherV S b) := by
  have hg := o.c.gath
  unfold gatherV
  split
  · exact ⟨⟨o.d.w0, o.d.w1, o.d.h0, o.d.h1, o.d.m0, o.d.m1, o.d.past, o.d.main, o.d.other⟩, ⟨o.c.p, o.c.t0, o.c.tb, o.c.bh, o.c.tabs, o.c.gath, o.c.ans, o.c.hv0, o.c.hv1, o.c.km, o.c.ko⟩⟩
  · exact ⟨⟨o.d.w0, o.d.w1, o.d.h0, o.d.h1, o.d.m0, o.d.m1, o.d.past, o.d.main, o.d.other⟩, ⟨o.c.p, o.c.t0, o.c.tb, o.c.bh, o.c.tabs, by simp only [List.length_append, List.length_singleton]; omega, o.c.ans, o.c.hv0, o.c.hv1, o.c.km, o.c.ko⟩⟩
theorem Fx.gather {R S : Scr} (f : Fx R S) (b : Int) : Fx R (gatherV S b) := ite_fx ⟨f.w, f.h, f.most, f.bells, f.u⟩ ⟨f.w, f.h, f.most, f.bells, f.u⟩
def titled (S : Scr) : Scr := { S with title := (bytesOf S.gathered).extract 2 (imin ((bytesOf S.gathered).size : Int) 130).toNat }
def namedV (S : Scr) : Scr :=
  if 2 ≤ ((bytesOf S.gathered).size : Int) then
    if byteAt (bytesOf S.gathered) 0 = 48 then (if byteAt (bytesOf S.gathered) 1 = 59 then titled S else S) else
    if byteAt (bytesOf S.gathered) 0 = 50 then (if byteAt (bytesOf S.gathered) 1 = 59 then titled S else S) else S
  else S
theorem Ok.titled {S : Scr} (o : Ok S) : Ok (titled S) := ⟨⟨o.d.w0, o.d.w1, o.d.h0, o.d.h1, o.d.m0, o.d.m1, o.d.past, o.d.main, o.d.other⟩, ⟨o.c.p, o.c.t0, o.c.tb, o.c.bh, o.c.tabs, o.c.gath, o.c.ans, o.c.hv0, o.c.hv1, o.c.km, o.c.ko⟩⟩
theorem Fx.titled {R S : Scr} (f : Fx R S) : Fx R (M.titled S) := ⟨f.w, f.h, f.most, f.bells, f.u⟩
theorem Ok.named {S : Scr} (o : Ok S) : Ok (namedV S) := by
  unfold namedV
  exact ite_ok (fun _ => ite_ok (fun _ => ite_ok (fun _ => o.titled) (fun _ => o)) (fun _ => ite_ok (fun _ => ite_ok (fun _ => o.titled) (fun _ => o)) (fun _ => o))) (fun _ => o)
theorem Fx.named {R S : Scr} (f : Fx R S) : Fx R (namedV S) := ite_fx (ite_fx (ite_fx f.titled f) (ite_fx (ite_fx f.titled f) f)) f
def noHave (S : Scr) : Scr := { S with have_ := 0 }
theorem Ok.noHave {S : Scr} (o : Ok S) : Ok (noHave S) :=
  ⟨⟨o.d.w0, o.d.w1, o.d.h0, o.d.h1, o.d.m0, o.d.m1, o.d.past, o.d.main, o.d.other⟩, ⟨o.c.p, o.c.t0, o.c.tb, o.c.bh, o.c.tabs, o.c.gath, o.c.ans, Int.le_refl _, fun h => absurd h (by show ¬ (0 : Int) < 0; decide), o.c.km, o.c.ko⟩⟩
def brokenV (S : Scr) : Scr := if 0 < S.have_ then writeV (noHave S) 65533 else S
theorem Ok.broken {S : Scr} (o : Ok S) : Ok (brokenV S) := ite_ok (fun _ => o.noHave.write _) (fun _ => o)
theorem Fx.noHave {R S : Scr} (f : Fx R S) : Fx R (M.noHave S) := ⟨f.w, f.h, f.most, f.bells, f.u⟩
theorem Fx.broken {R S : Scr} (f : Fx R S) : Fx R (brokenV S) := ite_fx (f.noHave.write _) f
def bell (S : Scr) : Scr := { S with bells := IntKind.wrap .i64 (S.bells + 1) }
def doesV (S : Scr) (b : Int) : Scr :=
  if b = 7 then bell S else if b = 8 then toV S (S.pl.x - 1) S.pl.y else if b = 9 then tabV S 1 else
  if b = 10 ∨ b = 11 ∨ b = 12 then (if S.newline = true then feedV (setX S 0) else feedV S) else
  if b = 13 then toV S 0 S.pl.y else if b = 14 then S.setPl { S.pl with second := true } else if b = 15 then S.setPl { S.pl with second := false } else S
theorem Ok.setSecond {S : Scr} (o : Ok S) (b : Bool) : Ok (S.setPl { S.pl with second := b }) := Ok.setPl (p := { S.pl with second := b }) o ⟨o.c.p.x0, o.c.p.x1, o.c.p.y0, o.c.p.y1⟩
theorem Ok.bell {S : Scr} (o : Ok S) : Ok (bell S) := ⟨⟨o.d.w0, o.d.w1, o.d.h0, o.d.h1, o.d.m0, o.d.m1, o.d.past, o.d.main, o.d.other⟩, ⟨o.c.p, o.c.t0, o.c.tb, o.c.bh, o.c.tabs, o.c.gath, o.c.ans, o.c.hv0, o.c.hv1, o.c.km, o.c.ko⟩⟩
theorem Ok.does {S : Scr} (o : Ok S) (b : Int) : Ok (doesV S b) := by
  unfold doesV
  exact ite_ok (fun _ => o.bell) (fun _ => ite_ok (fun _ => o.to _ _) (fun _ => ite_ok (fun _ => o.tab _) (fun _ => ite_ok (fun _ => ite_ok (fun _ => o.zeroX.feed) (fun _ => o.feed)) (fun _ => ite_ok (fun _ => o.to _ _) (fun _ => ite_ok (fun _ => o.setSecond _) (fun _ => ite_ok (fun _ => o.setSecond _) (fun _ => o)))))))
/-- The sizes alone. -/
structure F3 (R S : Scr) : Prop where
  w : S.w = R.w
  h : S.h = R.h
  most : S.most = R.most
  u : 0 ≤ R.u0 ∧ R.u0 ≤ 255 → 0 ≤ S.u0 ∧ S.u0 ≤ 255
theorem Fx.f3 {R S : Scr} (f : Fx R S) : F3 R S := ⟨f.w, f.h, f.most, f.u⟩
theorem F3.of {R S T : Scr} (f : F3 R S) (g : Fx S T) : F3 R T := ⟨g.w.trans f.w, g.h.trans f.h, g.most.trans f.most, fun h => g.u (f.u h)⟩
theorem F3.trans {R S T : Scr} (f : F3 R S) (g : F3 S T) : F3 R T := ⟨g.w.trans f.w, g.h.trans f.h, g.most.trans f.most, fun h => g.u (f.u h)⟩
theorem F3.self (S : Scr) : F3 S S := ⟨rfl, rfl, rfl, fun h => h⟩
theorem ite_f3 {R : Scr} {c : Prop} [Decidable c] {a b : Scr} (ha : F3 R a) (hb : F3 R b) : F3 R (if c then a else b) := by
  by_cases h : c
  · rw [if_pos h]; exact ha
  · rw [if_neg h]; exact hb
theorem f3_does (S : Scr) (b : Int) : F3 S (doesV S b) := by
  have f := Fx.self S
  unfold doesV
  exact ite_f3 ⟨rfl, rfl, rfl, fun h => h⟩ (ite_f3 (f.to _ _).f3 (ite_f3 (f.tab _).f3 (ite_f3 (ite_f3 (f.setX 0).feed.f3 f.feed.f3) (ite_f3 (f.to _ _).f3 (ite_f3 (f.setPl _).f3 (ite_f3 (f.setPl _).f3 f.f3))))))
end Go.Proofs.YthjdnhhifjpidaaDoor.M
