import Derived.Test.YthjdnhhifjpidaaGreatDoorUC
set_option linter.unusedVariables false
set_option linter.unusedSimpArgs false
set_option maxRecDepth 100000
namespace Go.Proofs.YthjdnhhifjpidaaGreatDoor.M
open Go Go.Hp

/-! ### What stays whatever is done: the sizes and the bells -/
structure Fx (R S : Scr) : Prop where
  w : S.w = R.w
  h : S.h = R.h
  most : S.most = R.most
  bells : S.bells = R.bells
  u : 0 ≤ R.u0 ∧ R.u0 ≤ 255 → 0 ≤ S.u0 ∧ S.u0 ≤ 255
theorem Fx.self (S : Scr) : Fx S S := ⟨rfl, rfl, rfl, rfl, fun h => h⟩
theorem ite_fx {R : Scr} {c : Prop} [Decidable c] {a b : Scr} (ha : Fx R a) (hb : Fx R b) : Fx R (if c then a else b) := by
  by_cases h : c
  · rw [if_pos h]; exact ha
  · rw [if_neg h]; exact hb
section
variable {R S : Scr}
theorem Fx.setPl (f : Fx R S) (p : Pl) : Fx R (S.setPl p) := ⟨f.w, f.h, f.most, f.bells, f.u⟩
theorem Fx.to (f : Fx R S) (x y : Int) : Fx R (toV S x y) := ⟨f.w, f.h, f.most, f.bells, f.u⟩
theorem Fx.home (f : Fx R S) (x y : Int) : Fx R (homeV S x y) := f.to _ _
theorem Fx.rowsUp (f : Fx R S) (n : Int) : Fx R (rowsUpV S n) := f.to _ _
theorem Fx.rowsDown (f : Fx R S) (n : Int) : Fx R (rowsDownV S n) := f.to _ _
theorem Fx.tab (f : Fx R S) (n : Int) : Fx R (tabV S n) := f.to _ _
theorem Fx.back (f : Fx R S) (n : Int) : Fx R (backV S n) := f.to _ _
theorem Fx.setX (f : Fx R S) (x : Int) : Fx R (M.setX S x) := f.setPl _
theorem Fx.setY (f : Fx R S) (x : Int) : Fx R (M.setY S x) := f.setPl _
theorem Fx.unwait (f : Fx R S) : Fx R (M.unwait S) := f.setPl _
theorem Fx.setSh (f : Fx R S) (g) : Fx R (S.setSh g) := ite_fx ⟨f.w, f.h, f.most, f.bells, f.u⟩ ⟨f.w, f.h, f.most, f.bells, f.u⟩
theorem Fx.keepOne (f : Fx R S) (t : Int) (k : Bool) : Fx R (M.keepOne S t k) := ite_fx (ite_fx f ⟨f.w, f.h, f.most, f.bells, f.u⟩) f
theorem Fx.upL (t b : Int) (k : Bool) : ∀ (n : Nat) (S : Scr), Fx R S → Fx R (M.upL t b k n S)
  | 0, S, f => f
  | n + 1, S, f => Fx.upL t b k n _ ((f.keepOne t k).setSh _)
theorem Fx.up (f : Fx R S) (t b n : Int) (k : Bool) : Fx R (upV S t b n k) := Fx.upL t b k _ S f
theorem Fx.downL (t b : Int) : ∀ (n : Nat) (S : Scr), Fx R S → Fx R (M.downL t b n S)
  | 0, S, f => f
  | n + 1, S, f => Fx.downL t b n _ (f.setSh _)
theorem Fx.down (f : Fx R S) (t b n : Int) : Fx R (downV S t b n) := Fx.downL t b _ S f
theorem Fx.feed (f : Fx R S) : Fx R (feedV S) := ite_fx (f.up _ _ _ _).unwait (ite_fx (f.setY _).unwait f.unwait)
theorem Fx.setKept (f : Fx R S) (p) : Fx R (S.setKept p) := ite_fx ⟨f.w, f.h, f.most, f.bells, f.u⟩ ⟨f.w, f.h, f.most, f.bells, f.u⟩
theorem Fx.keepCursor (f : Fx R S) : Fx R (keepCursorV S) := f.setKept _
theorem Fx.backCursor (f : Fx R S) : Fx R (backCursorV S) := f.setPl _
theorem Fx.soft (f : Fx R S) : Fx R (softV S) := (Fx.setKept (S := soft0 S) ⟨f.w, f.h, f.most, f.bells, f.u⟩ none).unwait
theorem Fx.swap (f : Fx R S) (on : Bool) : Fx R (swapV S on) :=
  ite_fx f (ite_fx (Fx.unwait (S := { S with alt := true, other := sheetV S.w S.h 0 S.pl.back 0, okept := none }) ⟨f.w, f.h, f.most, f.bells, f.u⟩) (Fx.unwait (S := { S with alt := false, other := [], okept := none }) ⟨f.w, f.h, f.most, f.bells, f.u⟩))
theorem Fx.setRow (f : Fx R S) (g) : Fx R (S.setRow g) := f.setSh _
theorem Fx.open (f : Fx R S) (n : Int) : Fx R (openV S n) := f.setRow _
theorem Fx.shut (f : Fx R S) (n : Int) : Fx R (shutV S n) := f.setRow _
theorem Fx.lines1 (f : Fx R S) (b n : Int) : Fx R (lines1V S b n) := ite_fx f (ite_fx f (ite_fx ((f.down _ _ _).to _ _) ((f.up _ _ _ _).to _ _)))
theorem Fx.places (f : Fx R S) (b n : Int) : Fx R (placesV S b n) := ite_fx (f.open _).unwait (ite_fx (f.shut _).unwait (ite_fx (f.setRow _).unwait f.unwait))
theorem Fx.ahead (f : Fx R S) (n : Int) : Fx R (M.ahead S n) := ite_fx (f.setPl _) (f.setPl _)
theorem Fx.put (f : Fx R S) (c n : Int) : Fx R (putV S c n) := (f.setRow _).ahead n
theorem Fx.setLast (f : Fx R S) (c : Int) : Fx R (M.setLast S c) := ⟨f.w, f.h, f.most, f.bells, f.u⟩
theorem Fx.write3 (f : Fx R S) (c n t : Int) : Fx R (M.write3 S c n t) := ite_fx (((f.setLast t).open n).put c n) ((f.setLast t).put c n)
theorem Fx.write2 (f : Fx R S) (c n t : Int) : Fx R (M.write2 S c n t) := ite_fx (ite_fx (ite_fx f (ite_fx f ((f.setX 0).feed.write3 c n t))) (f.write3 c n t)) (f.write3 c n t)
theorem Fx.write1 (f : Fx R S) (c n t : Int) : Fx R (M.write1 S c n t) := ite_fx (ite_fx ((f.setX 0).feed.write2 c n t) (f.write2 c n t)) (f.write2 c n t)
theorem Fx.write (f : Fx R S) (c : Int) : Fx R (writeV S c) := ite_fx f (ite_fx (f.write1 _ _ _) (f.write1 _ _ _))
theorem Fx.eraseAt (f : Fx R S) (y : Nat) (i to : Int) (g : Gl) : Fx R (M.eraseAt S y i to g) := f.setSh _
theorem Fx.clearsL (n : Int) (g : Gl) : ∀ (q : Nat) (i : Int) (S : Scr), Fx R S → Fx R (M.clearsL n g q i S)
  | 0, _, S, f => f
  | q + 1, i, S, f => ite_fx (Fx.clearsL n g q _ _ (f.eraseAt _ _ _ _)) (ite_fx (Fx.clearsL n g q _ _ (f.eraseAt _ _ _ _)) (Fx.clearsL n g q _ _ f))
theorem Fx.clears2 (f : Fx R S) (b n : Int) (g : Gl) : Fx R (M.clears2 S b n g) := ite_fx f (Fx.clearsL n g _ _ S f)
theorem Fx.clears1 (f : Fx R S) (b n : Int) (g : Gl) : Fx R (M.clears1 S b n g) := ite_fx ((f.eraseAt _ _ _ _).clears2 b n g) (f.clears2 b n g)
theorem Fx.clears0 (f : Fx R S) (b n : Int) (g : Gl) : Fx R (M.clears0 S b n g) := ite_fx ((f.eraseAt _ _ _ _).clears1 b n g) (f.clears1 b n g)
theorem Fx.noPast (f : Fx R S) : Fx R (M.noPast S) := ⟨f.w, f.h, f.most, f.bells, f.u⟩
theorem Fx.clears (f : Fx R S) (b n : Int) : Fx R (clearsV S b n) := ite_fx f.noPast.unwait (ite_fx f (f.unwait.clears0 b n _))
theorem Fx.private (f : Fx R S) (n : Int) (on : Bool) : Fx R (privateV S n on) := by
  unfold privateV
  refine ite_fx ⟨f.w, f.h, f.most, f.bells, f.u⟩ (ite_fx ⟨f.w, f.h, f.most, f.bells, f.u⟩ (ite_fx ((f.setPl _).home 1 1) (ite_fx ⟨f.w, f.h, f.most, f.bells, f.u⟩ (ite_fx ⟨f.w, f.h, f.most, f.bells, f.u⟩ (ite_fx (f.swap on) (ite_fx (ite_fx f.keepCursor f.backCursor) (ite_fx (ite_fx (ite_fx (f.keepCursor.swap true) f) (ite_fx (f.swap false).backCursor f)) f)))))))
theorem Fx.privL (on : Bool) : ∀ (l : List Int) (S : Scr), Fx R S → Fx R (M.privL on l S)
  | [], S, f => f
  | m :: l, S, f => Fx.privL on l _ (f.private m on)
theorem Fx.pensL (l : List Int) : ∀ (q i : Nat) (S : Scr), Fx R S → Fx R (M.pensL l q i S)
  | 0, _, S, f => f
  | q + 1, i, S, f => by
    unfold M.pensL
    refine ite_fx ?_ f
    iterate 11 (refine ite_fx (Fx.pensL l q _ _ (f.setPl _)) ?_)
    refine ite_fx ?_ (Fx.pensL l q _ _ f)
    refine ite_fx f ?_
    refine ite_fx (Fx.pensL l q _ _ (f.setPl _)) ?_
    exact ite_fx (Fx.pensL l q _ _ (f.setPl _)) (Fx.pensL l q _ _ f)
theorem Fx.pens (f : Fx R S) (l : List Int) : Fx R (pensV S l) := ite_fx (Fx.pensL _ _ _ S f) (Fx.pensL _ _ _ S f)
theorem Fx.sends (f : Fx R S) (t : ByteArray) : Fx R (sendsV S t) := ite_fx ⟨f.w, f.h, f.most, f.bells, f.u⟩ f
theorem Fx.repL : ∀ (q : Nat) (S : Scr), Fx R S → Fx R (M.repL q S)
  | 0, S, f => f
  | q + 1, S, f => ite_fx f (Fx.repL q _ (f.write _))
theorem Fx.modesL (on : Bool) : ∀ (l : List Int) (S : Scr), Fx R S → Fx R (M.modesL on l S)
  | [], S, f => f
  | m :: l, S, f => Fx.modesL on l _ (ite_fx ⟨f.w, f.h, f.most, f.bells, f.u⟩ (ite_fx ⟨f.w, f.h, f.most, f.bells, f.u⟩ f))
theorem Fx.tells (f : Fx R S) (a y : Int) : Fx R (tellsV S a y) := ite_fx (f.sends _) (ite_fx (f.sends _) f)
theorem Fx.region (f : Fx R S) (n e : Int) : Fx R (M.region S n e) := ite_fx (Fx.home (S := { S with top := n - 1, bottom := e - 1 }) ⟨f.w, f.h, f.most, f.bells, f.u⟩ 1 1) f
theorem Fx.others (f : Fx R S) (b : Int) (l : List Int) (n : Int) : Fx R (othersV S b l n) := by
  unfold othersV
  refine ite_fx (Fx.repL _ S f) (ite_fx (ite_fx ⟨f.w, f.h, f.most, f.bells, f.u⟩ (ite_fx ⟨f.w, f.h, f.most, f.bells, f.u⟩ f)) ?_)
  unfold others1
  exact ite_fx (Fx.modesL _ l S f) (ite_fx (f.pens l) (ite_fx (f.tells _ _) (ite_fx (ite_fx (f.sends _) f) (ite_fx (f.region _ _) (ite_fx f.keepCursor.unwait (ite_fx f.backCursor f))))))
theorem Fx.plain (f : Fx R S) (b : Int) (l : List Int) : Fx R (plainV S b l) := by
  unfold plainV plain1
  refine ite_fx (f.rowsUp _) (ite_fx (f.rowsDown _) (ite_fx (f.to _ _) (ite_fx (f.to _ _) (ite_fx ((f.rowsDown _).to _ _) (ite_fx ((f.rowsUp _).to _ _) ?_)))))
  unfold plain2
  refine ite_fx (f.to _ _) (ite_fx (f.home _ _) (ite_fx (f.home _ _) (ite_fx (f.tab _) (ite_fx (f.back _) ?_))))
  unfold plain4
  exact ite_fx (f.clears _ _) (ite_fx (f.lines1 _ _) (ite_fx (f.places _ _) (ite_fx (f.up _ _ _ _).unwait (ite_fx (f.down _ _ _).unwait (f.others _ _ _)))))
theorem Fx.controlled (f : Fx R S) (b : Int) : Fx R (controlledV S b) := ite_fx (ite_fx (Fx.privL _ _ S f) (ite_fx f.soft (ite_fx (f.plain _ _) f))) f
end
end Go.Proofs.YthjdnhhifjpidaaGreatDoor.M
set_option maxRecDepth 100000
namespace Go.Proofs.YthjdnhhifjpidaaGreatDoor.M
open Go Go.Hp

/-! ### The rest of what bytes do, as plain data -/
def stopsL (w : Int) : Nat → Int → List Bool → List Bool
  | 0, _, l => l
  | q + 1, i, l => if i < w then stopsL w q (i + 8) (l.set i.toNat true) else l
theorem stopsL_len (w : Int) : ∀ (q : Nat) (i : Int) (l : List Bool), (stopsL w q i l).length = l.length
  | 0, _, l => rfl
  | q + 1, i, l => by
    unfold stopsL
    split
    · rw [stopsL_len, List.length_set]
    · rfl
def stopsW (w : Int) : List Bool := stopsL w w.toNat 8 (List.replicate w.toNat false)
def stopsV (S : Scr) : Scr := { S with tabs := stopsW S.w }
def bare (w h most : Int) (past : List (List Gl)) (bells : Int) (answer : ByteArray) : Scr :=
  ⟨w, h, most, [], none, [], none, false, past, pl0, 0, h - 1, [], false, false, true, false, false, false, ⟨#[]⟩, bells, answer, 0, [], false, 0, 0, 0, 0, 0, 0, 0⟩
def resetV (S : Scr) : Scr := stopsV { bare S.w S.h S.most S.past S.bells S.answer with main := sheetV S.w S.h 0 0 0 }
theorem sheetV_dim {w h : Int} (f b m : Int) (w0 : 1 ≤ w) (h0 : 1 ≤ h) : ((sheetV w h f b m).length : Int) = h ∧ ∀ g ∈ sheetV w h f b m, (g.length : Int) = w := by
  refine ⟨?_, fun g hg => ?_⟩
  · show ((List.replicate h.toNat _).length : Int) = h
    rw [List.length_replicate]; omega
  · have : g = List.replicate w.toNat (blankG f b m) := (List.mem_replicate.1 (show g ∈ List.replicate h.toNat _ from hg)).2
    rw [this, List.length_replicate]; omega
theorem ok_reset {S : Scr} (w0 : 1 ≤ S.w) (w1 : S.w ≤ 1000) (h0 : 1 ≤ S.h) (h1 : S.h ≤ 1000) (m0 : 0 ≤ S.most) (m1 : S.most ≤ 2000) (hp : (S.past.length : Int) ≤ S.most) (ha : S.answer.size ≤ 4096) : Ok (resetV S) := by
  refine ⟨⟨w0, w1, h0, h1, m0, m1, hp, sheetV_dim 0 0 0 w0 h0, fun hh => by cases hh⟩, ⟨⟨Int.le_refl _, w0, Int.le_refl _, h0⟩, Int.le_refl _, ?_, ?_, ?_, by simp [resetV, stopsV, bare], ha, Int.le_refl _, fun hh => ?_, (fun q hq => by cases hq), (fun q hq => by cases hq)⟩⟩
  · show (0 : Int) ≤ S.h - 1
    omega
  · show S.h - 1 < S.h
    omega
  · show ((stopsW S.w).length : Int) = S.w
    unfold stopsW
    rw [stopsL_len, List.length_replicate]
    omega
  · exact absurd hh (show ¬ (0 : Int) < 0 by decide)
theorem Ok.reset {S : Scr} (o : Ok S) : Ok (resetV S) := ok_reset o.d.w0 o.d.w1 o.d.h0 o.d.h1 o.d.m0 o.d.m1 o.d.past o.c.ans
theorem Fx.reset {R S : Scr} (f : Fx R S) : Fx R (resetV S) := ⟨f.w, f.h, f.most, f.bells, fun _ => ⟨by show (0 : Int) ≤ 0; decide, by show (0 : Int) ≤ 255; decide⟩⟩
def eG : Gl := (⟨#[69]⟩, 1, 0, 0, 0)
def allEL : Nat → Nat → Scr → Scr
  | 0, _, S => S
  | q + 1, i, S => allEL q (i + 1) (S.setAt i (List.replicate (S.sh.getD i []).length eG))
def allE (S : Scr) : Scr := allEL S.h.toNat 0 S
def whole (S : Scr) : Scr := { S with top := 0, bottom := S.h - 1 }
theorem Ok.allEL : ∀ (q i : Nat) (S : Scr), Ok S → ((i + q : Nat) : Int) ≤ S.h → Ok (allEL q i S)
  | 0, _, S, o, _ => o
  | q + 1, i, S, o, hi => by
    have hg := o.getAt (y := i) (by omega)
    exact Ok.allEL q (i + 1) _ (o.setAt (by rw [List.length_replicate]; exact hg)) (by rw [show (S.setAt i _).h = S.h from (setSh_w S _).2.2]; omega)
theorem Ok.allE {S : Scr} (o : Ok S) : Ok (allE S) := Ok.allEL _ 0 S o (by have := o.d.h0; omega)
theorem Fx.allEL {R : Scr} : ∀ (q i : Nat) (S : Scr), Fx R S → Fx R (allEL q i S)
  | 0, _, S, f => f
  | q + 1, i, S, f => Fx.allEL q (i + 1) _ (f.setSh _)
theorem Ok.whole {S : Scr} (o : Ok S) : Ok (whole S) := by
  have := o.d.h0
  refine ⟨⟨o.d.w0, o.d.w1, o.d.h0, o.d.h1, o.d.m0, o.d.m1, o.d.past, o.d.main, o.d.other⟩, ⟨o.c.p, Int.le_refl _, ?_, ?_, o.c.tabs, o.c.gath, o.c.ans, o.c.hv0, o.c.hv1, o.c.km, o.c.ko⟩⟩
  · show (0 : Int) ≤ S.h - 1
    omega
  · show S.h - 1 < S.h
    omega
def escaped1 (S : Scr) (b : Int) : Scr :=
  if S.gathered.getD 0 0 = 40 then S.setPl { S.pl with l0 := decide (b = 48) } else
  if S.gathered.getD 0 0 = 41 then S.setPl { S.pl with l1 := decide (b = 48) } else
  if S.gathered.getD 0 0 = 35 ∧ b = 56 then toV (whole (allE S)) 0 0 else S
def escaped0 (S : Scr) (b : Int) : Scr :=
  if b = 55 then keepCursorV S else if b = 56 then backCursorV S else if b = 69 then feedV (setX S 0) else if b = 68 then feedV S else
  if b = 77 then (if S.pl.y = S.top then unwait (downV S S.top S.bottom 1) else toV S S.pl.x (S.pl.y - 1)) else
  if b = 72 then setTab S S.pl.x true else if b = 99 then resetV S else S
def escapedV (S : Scr) (b : Int) : Scr := if S.gathered.length = 1 then escaped1 S b else if 0 < S.gathered.length then S else escaped0 S b
theorem Ok.setL0 {S : Scr} (o : Ok S) (b : Bool) : Ok (S.setPl { S.pl with l0 := b }) := Ok.setPl (p := { S.pl with l0 := b }) o ⟨o.c.p.x0, o.c.p.x1, o.c.p.y0, o.c.p.y1⟩
theorem Ok.setL1 {S : Scr} (o : Ok S) (b : Bool) : Ok (S.setPl { S.pl with l1 := b }) := Ok.setPl (p := { S.pl with l1 := b }) o ⟨o.c.p.x0, o.c.p.x1, o.c.p.y0, o.c.p.y1⟩
theorem Ok.escaped {S : Scr} (o : Ok S) (b : Int) : Ok (escapedV S b) := by
  unfold escapedV
  refine ite_ok (fun _ => ?_) (fun _ => ite_ok (fun _ => o) (fun _ => ?_))
  · unfold escaped1
    exact ite_ok (fun _ => o.setL0 _) (fun _ => ite_ok (fun _ => o.setL1 _) (fun _ => ite_ok (fun _ => o.allE.whole.to 0 0) (fun _ => o)))
  · unfold escaped0
    exact ite_ok (fun _ => o.keepCursor) (fun _ => ite_ok (fun _ => o.backCursor) (fun _ => ite_ok (fun _ => o.zeroX.feed) (fun _ => ite_ok (fun _ => o.feed) (fun _ => ite_ok (fun _ => ite_ok (fun _ => (o.down o.c.t0 o.c.tb o.c.bh).unwait) (fun _ => o.to _ _)) (fun _ => ite_ok (fun _ => o.setTab _ _) (fun _ => ite_ok (fun _ => o.reset) (fun _ => o)))))))
theorem Fx.escaped {R S : Scr} (f : Fx R S) (b : Int) : Fx R (escapedV S b) := by
  unfold escapedV
  refine ite_fx ?_ (ite_fx f ?_)
  · unfold escaped1
    have fa : Fx R (M.allE S) := Fx.allEL _ _ S f
    exact ite_fx (f.setPl _) (ite_fx (f.setPl _) (ite_fx (Fx.to (S := whole (M.allE S)) ⟨fa.w, fa.h, fa.most, fa.bells, fa.u⟩ 0 0) f))
  · unfold escaped0
    exact ite_fx f.keepCursor (ite_fx f.backCursor (ite_fx (f.setX 0).feed (ite_fx f.feed (ite_fx (ite_fx (f.down _ _ _).unwait (f.to _ _)) (ite_fx ⟨f.w, f.h, f.most, f.bells, f.u⟩ (ite_fx f.reset f))))))
def setState (S : Scr) (z : Int) : Scr := { S with state := z }
theorem Ok.setState {S : Scr} (o : Ok S) (z : Int) : Ok (setState S z) := ⟨⟨o.d.w0, o.d.w1, o.d.h0, o.d.h1, o.d.m0, o.d.m1, o.d.past, o.d.main, o.d.other⟩, ⟨o.c.p, o.c.t0, o.c.tb, o.c.bh, o.c.tabs, o.c.gath, o.c.ans, o.c.hv0, o.c.hv1, o.c.km, o.c.ko⟩⟩
theorem Fx.setState {R S : Scr} (f : Fx R S) (z : Int) : Fx R (M.setState S z) := ⟨f.w, f.h, f.most, f.bells, f.u⟩
theorem Ok.begin {S : Scr} (o : Ok S) (z : Int) : Ok (beginV S z) :=
  ⟨⟨o.d.w0, o.d.w1, o.d.h0, o.d.h1, o.d.m0, o.d.m1, o.d.past, o.d.main, o.d.other⟩, ⟨o.c.p, o.c.t0, o.c.tb, o.c.bh, o.c.tabs, by simp [beginV], o.c.ans, o.c.hv0, o.c.hv1, o.c.km, o.c.ko⟩⟩
theorem Fx.begin {R S : Scr} (f : Fx R S) (z : Int) : Fx R (beginV S z) := ⟨f.w, f.h, f.most, f.bells, f.u⟩
theorem Ok.gather {S : Scr} (o : Ok S) (b : Int) : Ok (gatherV S b) := by
  have hg := o.c.gath
  unfold gatherV
  split
  · exact ⟨⟨o.d.w0, o.d.w1, o.d.h0, o.d.h1, o.d.m0, o.d.m1, o.d.past, o.d.main, o.d.other⟩, ⟨o.c.p, o.c.t0, o.c.tb, o.c.bh, o.c.tabs, o.c.gath, o.c.ans, o.c.hv0, o.c.hv1, o.c.km, o.c.ko⟩⟩
  · exact ⟨⟨o.d.w0, o.d.w1, o.d.h0, o.d.h1, o.d.m0, o.d.m1, o.d.past, o.d.main, o.d.other⟩, ⟨o.c.p, o.c.t0, o.c.tb, o.c.bh, o.c.tabs, by simp only [List.length_append, List.length_singleton]; omega, o.c.ans, o.c.hv0, o.c.hv1, o.c.km, o.c.ko⟩⟩
theorem Fx.gather {R S : Scr} (f : Fx R S) (b : Int) : Fx R (gatherV S b) := ite_fx ⟨f.w, f.h, f.most, f.bells, f.u⟩ ⟨f.w, f.h, f.most, f.bells, f.u⟩
def titled (S : Scr) : Scr := { S with title := (bytesOf S.gathered).extract 2 (imin ((bytesOf S.gathered).size : Int) 130).toNat }
def namedV (S : Scr) : Scr :=
  if 2 ≤ ((bytesOf S.gathered).size : Int) then
    if byteAt (bytesOf S.gathered) 0 = 48 then (if byteAt (bytesOf S.gathered) 1 = 59 then titled S else S) else
    if byteAt (bytesOf S.gathered) 0 = 50 then (if byteAt (bytesOf S.gathered) 1 = 59 then titled S else S) else S
  else S
theorem Ok.titled {S : Scr} (o : Ok S) : Ok (titled S) := ⟨⟨o.d.w0, o.d.w1, o.d.h0, o.d.h1, o.d.m0, o.d.m1, o.d.past, o.d.main, o.d.other⟩, ⟨o.c.p, o.c.t0, o.c.tb, o.c.bh, o.c.tabs, o.c.gath, o.c.ans, o.c.hv0, o.c.hv1, o.c.km, o.c.ko⟩⟩
theorem Fx.titled {R S : Scr} (f : Fx R S) : Fx R (M.titled S) := ⟨f.w, f.h, f.most, f.bells, f.u⟩
theorem Ok.named {S : Scr} (o : Ok S) : Ok (namedV S) := by
  unfold namedV
  exact ite_ok (fun _ => ite_ok (fun _ => ite_ok (fun _ => o.titled) (fun _ => o)) (fun _ => ite_ok (fun _ => ite_ok (fun _ => o.titled) (fun _ => o)) (fun _ => o))) (fun _ => o)
theorem Fx.named {R S : Scr} (f : Fx R S) : Fx R (namedV S) := ite_fx (ite_fx (ite_fx f.titled f) (ite_fx (ite_fx f.titled f) f)) f
def noHave (S : Scr) : Scr := { S with have_ := 0 }
theorem Ok.noHave {S : Scr} (o : Ok S) : Ok (noHave S) :=
  ⟨⟨o.d.w0, o.d.w1, o.d.h0, o.d.h1, o.d.m0, o.d.m1, o.d.past, o.d.main, o.d.other⟩, ⟨o.c.p, o.c.t0, o.c.tb, o.c.bh, o.c.tabs, o.c.gath, o.c.ans, Int.le_refl _, fun h => absurd h (by show ¬ (0 : Int) < 0; decide), o.c.km, o.c.ko⟩⟩
def brokenV (S : Scr) : Scr := if 0 < S.have_ then writeV (noHave S) 65533 else S
theorem Ok.broken {S : Scr} (o : Ok S) : Ok (brokenV S) := ite_ok (fun _ => o.noHave.write _) (fun _ => o)
theorem Fx.noHave {R S : Scr} (f : Fx R S) : Fx R (M.noHave S) := ⟨f.w, f.h, f.most, f.bells, f.u⟩
theorem Fx.broken {R S : Scr} (f : Fx R S) : Fx R (brokenV S) := ite_fx (f.noHave.write _) f
def bell (S : Scr) : Scr := { S with bells := IntKind.wrap .i64 (S.bells + 1) }
def doesV (S : Scr) (b : Int) : Scr :=
  if b = 7 then bell S else if b = 8 then toV S (S.pl.x - 1) S.pl.y else if b = 9 then tabV S 1 else
  if b = 10 ∨ b = 11 ∨ b = 12 then (if S.newline = true then feedV (setX S 0) else feedV S) else
  if b = 13 then toV S 0 S.pl.y else if b = 14 then S.setPl { S.pl with second := true } else if b = 15 then S.setPl { S.pl with second := false } else S
theorem Ok.setSecond {S : Scr} (o : Ok S) (b : Bool) : Ok (S.setPl { S.pl with second := b }) := Ok.setPl (p := { S.pl with second := b }) o ⟨o.c.p.x0, o.c.p.x1, o.c.p.y0, o.c.p.y1⟩
theorem Ok.bell {S : Scr} (o : Ok S) : Ok (bell S) := ⟨⟨o.d.w0, o.d.w1, o.d.h0, o.d.h1, o.d.m0, o.d.m1, o.d.past, o.d.main, o.d.other⟩, ⟨o.c.p, o.c.t0, o.c.tb, o.c.bh, o.c.tabs, o.c.gath, o.c.ans, o.c.hv0, o.c.hv1, o.c.km, o.c.ko⟩⟩
theorem Ok.does {S : Scr} (o : Ok S) (b : Int) : Ok (doesV S b) := by
  unfold doesV
  exact ite_ok (fun _ => o.bell) (fun _ => ite_ok (fun _ => o.to _ _) (fun _ => ite_ok (fun _ => o.tab _) (fun _ => ite_ok (fun _ => ite_ok (fun _ => o.zeroX.feed) (fun _ => o.feed)) (fun _ => ite_ok (fun _ => o.to _ _) (fun _ => ite_ok (fun _ => o.setSecond _) (fun _ => ite_ok (fun _ => o.setSecond _) (fun _ => o)))))))
/-- The sizes alone. -/
structure F3 (R S : Scr) : Prop where
  w : S.w = R.w
  h : S.h = R.h
  most : S.most = R.most
  u : 0 ≤ R.u0 ∧ R.u0 ≤ 255 → 0 ≤ S.u0 ∧ S.u0 ≤ 255
theorem Fx.f3 {R S : Scr} (f : Fx R S) : F3 R S := ⟨f.w, f.h, f.most, f.u⟩
theorem F3.of {R S T : Scr} (f : F3 R S) (g : Fx S T) : F3 R T := ⟨g.w.trans f.w, g.h.trans f.h, g.most.trans f.most, fun h => g.u (f.u h)⟩
theorem F3.trans {R S T : Scr} (f : F3 R S) (g : F3 S T) : F3 R T := ⟨g.w.trans f.w, g.h.trans f.h, g.most.trans f.most, fun h => g.u (f.u h)⟩
theorem F3.self (S : Scr) : F3 S S := ⟨rfl, rfl, rfl, fun h => h⟩
theorem ite_f3 {R : Scr} {c : Prop} [Decidable c] {a b : Scr} (ha : F3 R a) (hb : F3 R b) : F3 R (if c then a else b) := by
  by_cases h : c
  · rw [if_pos h]; exact ha
  · rw [if_neg h]; exact hb
theorem f3_does (S : Scr) (b : Int) : F3 S (doesV S b) := by
  have f := Fx.self S
  unfold doesV
  exact ite_f3 ⟨rfl, rfl, rfl, fun h => h⟩ (ite_f3 (f.to _ _).f3 (ite_f3 (f.tab _).f3 (ite_f3 (ite_f3 (f.setX 0).feed.f3 f.feed.f3) (ite_f3 (f.to _ _).f3 (ite_f3 (f.setPl _).f3 (ite_f3 (f.setPl _).f3 f.f3))))))
end Go.Proofs.YthjdnhhifjpidaaGreatDoor.M
set_option maxRecDepth 100000
namespace Go.Proofs.YthjdnhhifjpidaaGreatDoor.M
open Go Go.Hp

/-! ### Characters of several bytes, and the bytes themselves -/
def firstT (b : Nat) : Int := ((Go.Pinned.utf8FirstZ.getD b 0 : Nat) : Int)
def szT (b : Nat) : Int := IntKind.wrap .i64 (iAnd .u8 (firstT b) 7)
def accT (b : Nat) : Int × Int := tab1.getD (Int.fdiv (firstT b) (2 ^ 4)).toNat tab1d
/-- What utf8.DecodeRune answers of n bytes. -/
def decV (n b0 b1 b2 b3 : Int) : Int :=
  if b0 < 128 then IntKind.wrap .i32 b0 else
  if 240 ≤ firstT b0.toNat then iOr .i32 (iAndNot .i32 (IntKind.wrap .i32 b0) (Int.fdiv (IntKind.wrap .i32 ((IntKind.wrap .i32 (firstT b0.toNat)) * 2 ^ 31)) (2 ^ 31))) (iAnd .i32 65533 (Int.fdiv (IntKind.wrap .i32 ((IntKind.wrap .i32 (firstT b0.toNat)) * 2 ^ 31)) (2 ^ 31))) else
  if n < szT b0.toNat then 65533 else
  if b1 < (accT b0.toNat).1 ∨ (accT b0.toNat).2 < b1 then 65533 else
  if szT b0.toNat ≤ 2 then iOr .i32 (IntKind.wrap .i32 ((IntKind.wrap .i32 (iAnd .u8 b0 31)) * 2 ^ 6)) (IntKind.wrap .i32 (iAnd .u8 b1 63)) else
  if b2 < 128 ∨ 191 < b2 then 65533 else
  if szT b0.toNat ≤ 3 then iOr .i32 (iOr .i32 (IntKind.wrap .i32 ((IntKind.wrap .i32 (iAnd .u8 b0 15)) * 2 ^ 12)) (IntKind.wrap .i32 ((IntKind.wrap .i32 (iAnd .u8 b1 63)) * 2 ^ 6))) (IntKind.wrap .i32 (iAnd .u8 b2 63)) else
  if b3 < 128 ∨ 191 < b3 then 65533 else
  iOr .i32 (iOr .i32 (iOr .i32 (IntKind.wrap .i32 ((IntKind.wrap .i32 (iAnd .u8 b0 7)) * 2 ^ 18)) (IntKind.wrap .i32 ((IntKind.wrap .i32 (iAnd .u8 b1 63)) * 2 ^ 12))) (IntKind.wrap .i32 ((IntKind.wrap .i32 (iAnd .u8 b2 63)) * 2 ^ 6))) (IntKind.wrap .i32 (iAnd .u8 b3 63))
def setU (S : Scr) (i : Int) (b : Int) : Scr :=
  if i = 0 then { S with u0 := b } else if i = 1 then { S with u1 := b } else if i = 2 then { S with u2 := b } else { S with u3 := b }
theorem Ok.setU {S : Scr} (o : Ok S) (i b : Int) : Ok (setU S i b) := ite_ok (fun _ => ⟨⟨o.d.w0, o.d.w1, o.d.h0, o.d.h1, o.d.m0, o.d.m1, o.d.past, o.d.main, o.d.other⟩, ⟨o.c.p, o.c.t0, o.c.tb, o.c.bh, o.c.tabs, o.c.gath, o.c.ans, o.c.hv0, o.c.hv1, o.c.km, o.c.ko⟩⟩) (fun _ => ite_ok (fun _ => ⟨⟨o.d.w0, o.d.w1, o.d.h0, o.d.h1, o.d.m0, o.d.m1, o.d.past, o.d.main, o.d.other⟩, ⟨o.c.p, o.c.t0, o.c.tb, o.c.bh, o.c.tabs, o.c.gath, o.c.ans, o.c.hv0, o.c.hv1, o.c.km, o.c.ko⟩⟩) (fun _ => ite_ok (fun _ => ⟨⟨o.d.w0, o.d.w1, o.d.h0, o.d.h1, o.d.m0, o.d.m1, o.d.past, o.d.main, o.d.other⟩, ⟨o.c.p, o.c.t0, o.c.tb, o.c.bh, o.c.tabs, o.c.gath, o.c.ans, o.c.hv0, o.c.hv1, o.c.km, o.c.ko⟩⟩) (fun _ => ⟨⟨o.d.w0, o.d.w1, o.d.h0, o.d.h1, o.d.m0, o.d.m1, o.d.past, o.d.main, o.d.other⟩, ⟨o.c.p, o.c.t0, o.c.tb, o.c.bh, o.c.tabs, o.c.gath, o.c.ans, o.c.hv0, o.c.hv1, o.c.km, o.c.ko⟩⟩)))
def loV (S : Scr) : Int := if S.have_ = 1 then if S.u0 = 224 then 160 else if S.u0 = 237 then 128 else if S.u0 = 240 then 144 else 128 else 128
def hiV (S : Scr) : Int := if S.have_ = 1 then if S.u0 = 224 then 191 else if S.u0 = 237 then 159 else if S.u0 = 240 then 191 else if S.u0 = 244 then 143 else 191 else 191
def goesV (S : Scr) (b : Int) : Bool := (decide (loV S ≤ b)) && (decide (b ≤ hiV S))
def more (S : Scr) (b : Int) : Scr := { setU S S.have_ b with have_ := S.have_ + 1 }
def done (S : Scr) (b : Int) : Scr := { setU S S.have_ b with have_ := 0 }
def runeV (S : Scr) : Int := decV S.want S.u0 S.u1 S.u2 S.u3
def goOnV (S : Scr) (b : Int) : Scr :=
  if S.have_ + 1 = S.want then (if 0 ≤ widthV (runeV (done S b)) then writeV (done S b) (runeV (done S b)) else done S b) else more S b
theorem setU_f (S : Scr) (i b : Int) : (setU S i b).w = S.w ∧ (setU S i b).h = S.h ∧ (setU S i b).most = S.most ∧ (setU S i b).bells = S.bells ∧ (setU S i b).have_ = S.have_ ∧ (setU S i b).want = S.want := by
  unfold setU
  split
  · exact ⟨rfl, rfl, rfl, rfl, rfl, rfl⟩
  split
  · exact ⟨rfl, rfl, rfl, rfl, rfl, rfl⟩
  split <;> exact ⟨rfl, rfl, rfl, rfl, rfl, rfl⟩
theorem setU_0 {S : Scr} {i b : Int} (hi : i ≠ 0) : (setU S i b).u0 = S.u0 := by
  unfold setU
  rw [if_neg hi]
  split
  · rfl
  split <;> rfl
theorem Ok.more {S : Scr} (o : Ok S) (b : Int) (h0 : 0 < S.have_) (h1 : S.have_ + 1 ≠ S.want) : Ok (more S b) := by
  have o := o.setU S.have_ b
  have e := (setU_f S S.have_ b).2.2.2.2
  have hv := o.c.hv1
  rw [e.1, e.2] at hv
  have hv := hv h0
  unfold M.more
  refine ⟨⟨o.d.w0, o.d.w1, o.d.h0, o.d.h1, o.d.m0, o.d.m1, o.d.past, o.d.main, o.d.other⟩, ⟨o.c.p, o.c.t0, o.c.tb, o.c.bh, o.c.tabs, o.c.gath, o.c.ans, ?_, fun _ => ?_, o.c.km, o.c.ko⟩⟩
  · show (0 : Int) ≤ S.have_ + 1
    omega
  · show S.have_ + 1 < (M.setU S S.have_ b).want ∧ (M.setU S S.have_ b).want ≤ 4
    rw [e.2]
    omega
theorem Ok.done {S : Scr} (o : Ok S) (b : Int) : Ok (done S b) := (o.setU S.have_ b).noHave
theorem Ok.goOn {S : Scr} (o : Ok S) (b : Int) (h0 : 0 < S.have_) : Ok (goOnV S b) := ite_ok (fun _ => ite_ok (fun _ => (o.done b).write _) (fun _ => o.done b)) (fun h => o.more b h0 h)
theorem Fx.setU {R S : Scr} (f : Fx R S) (i b : Int) (hb : i = 0 → 0 ≤ b ∧ b ≤ 255) : Fx R (M.setU S i b) := by
  have e := setU_f S i b
  refine ⟨e.1.trans f.w, e.2.1.trans f.h, e.2.2.1.trans f.most, e.2.2.2.1.trans f.bells, fun h => ?_⟩
  by_cases hi : i = 0
  · have : (M.setU S i b).u0 = b := by
      unfold M.setU
      rw [if_pos hi]
    rw [this]
    exact hb hi
  · rw [setU_0 hi]
    exact f.u h
theorem Fx.goOn {R S : Scr} (f : Fx R S) (b : Int) (h0 : 0 < S.have_) : Fx R (goOnV S b) := by
  have f1 := f.setU S.have_ b (fun h => by omega)
  have fd : Fx R (M.done S b) := ⟨f1.w, f1.h, f1.most, f1.bells, f1.u⟩
  have fm : Fx R (M.more S b) := ⟨f1.w, f1.h, f1.most, f1.bells, f1.u⟩
  exact ite_fx (ite_fx (fd.write _) fd) fm
def wantV (b : Int) : Int := if 240 ≤ b then 4 else if 224 ≤ b then 3 else 2
def startV (S : Scr) (b : Int) : Scr := { S with u0 := b, have_ := 1, want := wantV b }
theorem wantV_rng (b : Int) : 1 < wantV b ∧ wantV b ≤ 4 := by
  unfold wantV
  split
  · omega
  · split <;> omega
theorem Ok.start {S : Scr} (o : Ok S) (b : Int) : Ok (startV S b) := by
  have := wantV_rng b
  exact ⟨⟨o.d.w0, o.d.w1, o.d.h0, o.d.h1, o.d.m0, o.d.m1, o.d.past, o.d.main, o.d.other⟩, ⟨o.c.p, o.c.t0, o.c.tb, o.c.bh, o.c.tabs, o.c.gath, o.c.ans, by show (0 : Int) ≤ 1; decide, fun _ => this, o.c.km, o.c.ko⟩⟩
def ground1 (S : Scr) (b : Int) : Scr :=
  if b < 32 then doesV S b else if b < 127 then writeV S b else if b = 127 then S else if 194 ≤ b ∧ b ≤ 244 then startV S b else writeV S 65533
def groundV (S : Scr) (b : Int) : Scr := if 0 < S.have_ then (if goesV S b = true then goOnV S b else ground1 (brokenV S) b) else ground1 S b
theorem Ok.ground1 {S : Scr} (o : Ok S) (b : Int) : Ok (ground1 S b) :=
  ite_ok (fun _ => o.does b) (fun _ => ite_ok (fun _ => o.write b) (fun _ => ite_ok (fun _ => o) (fun _ => ite_ok (fun _ => o.start b) (fun _ => o.write _))))
theorem Ok.ground {S : Scr} (o : Ok S) (b : Int) : Ok (groundV S b) := ite_ok (fun h => ite_ok (fun _ => o.goOn b h) (fun _ => o.broken.ground1 b)) (fun _ => o.ground1 b)
theorem f3_ground1 (S : Scr) (b : Int) : F3 S (ground1 S b) := by
  have f := Fx.self S
  unfold ground1
  refine ite_f3 (f3_does S b) (ite_f3 (f.write b).f3 (ite_f3 f.f3 ?_))
  by_cases h : 194 ≤ b ∧ b ≤ 244
  · rw [if_pos h]
    exact ⟨rfl, rfl, rfl, fun _ => by show 0 ≤ b ∧ b ≤ 255; omega⟩
  · rw [if_neg h]
    exact (f.write _).f3
theorem f3_ground (S : Scr) (b : Int) : F3 S (groundV S b) := by
  have f := Fx.self S
  unfold groundV
  by_cases h : 0 < S.have_
  · rw [if_pos h]
    exact ite_f3 (f.goOn b h).f3 (f.broken.f3.trans (f3_ground1 _ b))
  · rw [if_neg h]
    exact f3_ground1 S b
def escapeV (S : Scr) (b : Int) : Scr :=
  if S.gathered.length = 0 ∧ b = 91 then beginV S 2 else if S.gathered.length = 0 ∧ b = 93 then beginV S 3 else
  if S.gathered.length = 0 ∧ (b = 80 ∨ b = 88 ∨ b = 94 ∨ b = 95) then setState S 4 else
  if b < 32 then doesV S b else if b < 48 then gatherV S b else
  if b < 127 then (if S.over = false then escapedV (setState S 0) b else setState S 0) else
  if 128 ≤ b then groundV (setState S 0) b else S
def sequenceV (S : Scr) (b : Int) : Scr :=
  if b < 32 then doesV S b else if b < 64 then gatherV S b else
  if b < 127 then (if S.over = false then controlledV (setState S 0) b else setState S 0) else
  if 128 ≤ b then groundV (setState S 0) b else S
theorem Ok.escape {S : Scr} (o : Ok S) (b : Int) : Ok (escapeV S b) :=
  ite_ok (fun _ => o.begin 2) (fun _ => ite_ok (fun _ => o.begin 3) (fun _ => ite_ok (fun _ => o.setState 4) (fun _ => ite_ok (fun _ => o.does b) (fun _ => ite_ok (fun _ => o.gather b) (fun _ => ite_ok (fun _ => ite_ok (fun _ => (o.setState 0).escaped b) (fun _ => o.setState 0)) (fun _ => ite_ok (fun _ => (o.setState 0).ground b) (fun _ => o)))))))
theorem Ok.sequence {S : Scr} (o : Ok S) (b : Int) : Ok (sequenceV S b) :=
  ite_ok (fun _ => o.does b) (fun _ => ite_ok (fun _ => o.gather b) (fun _ => ite_ok (fun _ => ite_ok (fun _ => (o.setState 0).controlled b) (fun _ => o.setState 0)) (fun _ => ite_ok (fun _ => (o.setState 0).ground b) (fun _ => o))))
theorem f3_escape (S : Scr) (b : Int) : F3 S (escapeV S b) := by
  have f := Fx.self S
  exact ite_f3 (f.begin 2).f3 (ite_f3 (f.begin 3).f3 (ite_f3 (f.setState 4).f3 (ite_f3 (f3_does S b) (ite_f3 (f.gather b).f3 (ite_f3 (ite_f3 ((f.setState 0).escaped b).f3 (f.setState 0).f3) (ite_f3 ((f.setState 0).f3.trans (f3_ground _ b)) f.f3))))))
theorem f3_sequence (S : Scr) (b : Int) : F3 S (sequenceV S b) := by
  have f := Fx.self S
  exact ite_f3 (f3_does S b) (ite_f3 (f.gather b).f3 (ite_f3 (ite_f3 ((f.setState 0).controlled b).f3 (f.setState 0).f3) (ite_f3 ((f.setState 0).f3.trans (f3_ground _ b)) f.f3)))
def titleV (S : Scr) (b : Int) : Scr :=
  if b = 7 then setState (namedV S) 0 else if 32 ≤ b ∧ b ≠ 127 ∧ (S.gathered.length : Int) < 130 then { S with gathered := S.gathered ++ [b] } else S
theorem Ok.title {S : Scr} (o : Ok S) (b : Int) : Ok (titleV S b) := by
  unfold titleV
  refine ite_ok (fun _ => o.named.setState 0) (fun _ => ite_ok (fun h => ?_) (fun _ => o))
  exact ⟨⟨o.d.w0, o.d.w1, o.d.h0, o.d.h1, o.d.m0, o.d.m1, o.d.past, o.d.main, o.d.other⟩, ⟨o.c.p, o.c.t0, o.c.tb, o.c.bh, o.c.tabs, by simp only [List.length_append, List.length_singleton]; omega, o.c.ans, o.c.hv0, o.c.hv1, o.c.km, o.c.ko⟩⟩
theorem f3_title (S : Scr) (b : Int) : F3 S (titleV S b) := ite_f3 ((Fx.self S).named.setState 0).f3 (ite_f3 ⟨rfl, rfl, rfl, fun h => h⟩ (F3.self S))
def escV (S : Scr) : Scr := beginV (if (brokenV S).state = 3 then namedV (brokenV S) else brokenV S) 1
def byteV (S : Scr) (b : Int) : Scr :=
  if b = 24 ∨ b = 26 then setState (brokenV S) 0 else if b = 27 then escV S else
  if S.state = 0 then groundV S b else if S.state = 1 then escapeV S b else if S.state = 2 then sequenceV S b else if S.state = 3 then titleV S b else S
theorem Ok.esc {S : Scr} (o : Ok S) : Ok (escV S) := (ite_ok (fun _ => o.broken.named) (fun _ => o.broken)).begin 1
theorem Fx.esc {R S : Scr} (f : Fx R S) : Fx R (escV S) := (ite_fx f.broken.named f.broken).begin 1
theorem Ok.byte {S : Scr} (o : Ok S) (b : Int) : Ok (byteV S b) :=
  ite_ok (fun _ => o.broken.setState 0) (fun _ => ite_ok (fun _ => o.esc) (fun _ => ite_ok (fun _ => o.ground b) (fun _ => ite_ok (fun _ => o.escape b) (fun _ => ite_ok (fun _ => o.sequence b) (fun _ => ite_ok (fun _ => o.title b) (fun _ => o))))))
theorem f3_byte (S : Scr) (b : Int) : F3 S (byteV S b) :=
  ite_f3 ((Fx.self S).broken.setState 0).f3 (ite_f3 (Fx.self S).esc.f3 (ite_f3 (f3_ground S b) (ite_f3 (f3_escape S b) (ite_f3 (f3_sequence S b) (ite_f3 (f3_title S b) (F3.self S))))))
def bytesL : List Int → Scr → Scr
  | [], S => S
  | b :: l, S => bytesL l (byteV S b)
theorem Ok.bytesL : ∀ (l : List Int) (S : Scr), Ok S → Ok (bytesL l S)
  | [], S, o => o
  | b :: l, S, o => Ok.bytesL l _ (o.byte b)
theorem f3_bytesL : ∀ (l : List Int) (S : Scr), F3 S (bytesL l S)
  | [], S => F3.self S
  | b :: l, S => (f3_byte S b).trans (f3_bytesL l _)
theorem bytesL_app : ∀ (l m : List Int) (S : Scr), bytesL (l ++ m) S = bytesL m (bytesL l S)
  | [], m, S => rfl
  | b :: l, m, S => bytesL_app l m (byteV S b)
def intsOf (s : ByteArray) : List Int := s.data.toList.map fun b => ((b.toNat : Nat) : Int)
def strV (S : Scr) (s : ByteArray) : Scr := bytesL (intsOf s) S
end Go.Proofs.YthjdnhhifjpidaaGreatDoor.M
set_option maxRecDepth 100000
namespace Go.Proofs.YthjdnhhifjpidaaGreatDoor.M
open Go Go.Hp

/-! ### A control sequence: the walk -/
theorem toListL (s : ByteArray) : ∀ (n i : Nat) (r : List UInt8), s.size - i = n → ByteArray.toList.loop s i r = r.reverse ++ s.data.toList.drop i
  | 0, i, r, hn => by
    unfold ByteArray.toList.loop
    have hs : s.data.toList.length = s.size := rfl
    rw [if_neg (by omega), List.drop_of_length_le (by omega)]
    simp
  | n + 1, i, r, hn => by
    unfold ByteArray.toList.loop
    have hs : s.data.toList.length = s.size := rfl
    rw [if_pos (by omega), toListL s n (i + 1) _ (by omega), List.drop_eq_getElem_cons (show i < s.data.toList.length by omega)]
    have hlt : i < s.data.size := by have : s.data.size = s.size := rfl; omega
    have : s.get! i = s.data[i] := by
      show s.data[i]! = _
      rw [getElem!_pos s.data i hlt]
    rw [this]
    simp
theorem toListE (s : ByteArray) : s.toList = s.data.toList := by
  have := toListL s s.size 0 [] (by omega)
  exact this.trans (by simp)
theorem lst_eq (a b : ByteArray) : (a.toList == b.toList) = decide (a = b) := by
  rw [toListE, toListE]
  by_cases h : a = b
  · subst h; simp
  · have : a.data.toList ≠ b.data.toList := fun e => h (ByteArray.ext (Array.toList_inj.1 e))
    rw [decide_eq_false h]
    exact beq_false_of_ne this
theorem controlled_l0 {h0 : Base} {s : Nat} {b : Int} {ob : Blks} {a : Option Addr} {n c : Nat} {l : List Int} {K : Heap → Prop} (hl : SlO nf 1 3 a n c l ob) (hn : n ≤ 1000) :
    ∀ (q i : Nat) (S : Scr) (h : Heap), RepX h0 h s S (ob ++ []) → Ok S → n - i = q → i ≤ n → (∀ h1, Rep h0 h1 s (privL (decide (b = 104)) (l.drop i) S) → K h1) → vt_Screen_controlled_l0 K (q + 1) (some ⟨s, 0, none⟩) b a n c (n : Int) i h := by
  have hnl := hl.1
  intro q
  induction q with
  | zero =>
    intro i S h hs o hq hi hk
    unfold vt_Screen_controlled_l0
    rw [if_neg (by omega)]
    rw [List.drop_of_length_le (by omega)] at hk
    exact hk h hs.rep
  | succ q ih =>
    intro i S h hs o hq hi hk
    unfold vt_Screen_controlled_l0
    rw [if_pos (by omega)]
    obtain ⟨p, hp, hd⟩ := (hs.ints hl).2 i (by omega)
    have hte : ((i : Int)).toNat = i := by omega
    rw [List.drop_eq_getElem_cons (by omega)] at hk
    unfold privL at hk
    have e : l.getD i 0 = l[i]'(by omega) := by rw [List.getD_eq_getElem?_getD, List.getElem?_eq_getElem (by omega)]; rfl
    rw [← e] at hk
    subst hp
    refine nz_i ⟨by omega, by omega, ⟨_, by rw [hte]; exact hd, ?_⟩⟩
    refine private_spX hs o fun h1 hs1 => ?_
    rw [wrap64 (by omega) (by omega), show (i : Int) + 1 = ((i + 1 : Nat) : Int) by omega]
    exact ih (i + 1) _ h1 hs1 (o.private _ _) (by omega) (by omega) hk
theorem controlled_sp {h0 : Base} {h : Heap} {s : Nat} {S : Scr} {b : Int} {K : Heap → Prop} (ht : Tabs h0.h) (hs : Rep h0 h s S) (o : Ok S) (hk : ∀ h1, Rep h0 h1 s (controlledV S b) → K h1) : vt_Screen_controlled (some ⟨s, 0, none⟩) b K h := by
  unfold vt_Screen_controlled
  unfold controlledV at hk
  have hle := numbersV_le S.gathered
  have hg := o.c.gath
  refine numbers_sp hs o fun h1 oa on oc ob hs1 hl => ?_
  generalize numbersV S.gathered = r at *
  obtain ⟨mk, l, bt, okk⟩ := r
  simp only [] at hk hle hl ⊢
  have hnl := hl.1
  have hs1' : RepX h0 h1 s S (ob ++ []) := by rw [List.append_nil]; exact hs1
  simp only [lst_eq]
  by_cases h2 : okk = true
  case neg =>
    rw [if_neg h2] at hk
    rw [if_pos (by simpa using h2)]
    exact hk h1 hs1.rep
  rw [if_pos h2] at hk
  rw [if_neg (by simpa using h2)]
  by_cases h3 : mk = 63 ∧ bt = ⟨#[]⟩ ∧ (b = 104 ∨ b = 108)
  · rw [if_pos h3] at hk
    rw [if_pos (by simpa [and_assoc] using h3)]
    exact ⟨on - 0 + 1, controlled_l0 hl (by omega) (on - 0) 0 S h1 hs1' o rfl (by omega) hk⟩
  rw [if_neg h3] at hk
  rw [if_neg (by simpa [and_assoc] using h3)]
  by_cases h4 : mk = 0 ∧ bt = ⟨#[33]⟩ ∧ b = 112
  · rw [if_pos h4] at hk
    rw [if_pos (by simpa [and_assoc] using h4)]
    exact soft_sp hs1.rep o hk
  rw [if_neg h4] at hk
  rw [if_neg (by simpa [and_assoc] using h4)]
  by_cases h5 : mk = 0 ∧ bt = ⟨#[]⟩
  · rw [if_pos h5] at hk
    rw [if_pos (by simpa [and_assoc] using h5)]
    exact plain_sp ht hs1 hl o (by omega) (Int.le_trans (atV_le hle.1 0 (by omega)) (by omega)) hk
  · rw [if_neg h5] at hk
    rw [if_neg (by simpa [and_assoc] using h5)]
    exact hk h1 hs1.rep
end Go.Proofs.YthjdnhhifjpidaaGreatDoor.M
set_option maxRecDepth 100000
namespace Go.Proofs.YthjdnhhifjpidaaGreatDoor.M
open Go Go.Hp

/-! ### A tab stop at each eighth column -/
def setTabs (S : Scr) (l : List Bool) : Scr := { S with tabs := l }
theorem Rep.tabAt {h0 : Base} {h : Heap} {s : Nat} {S : Scr} {K : Heap → Prop} {i : Int} (hs : Rep h0 h s S) (i0 : 0 ≤ i) (i1 : i < (S.tabs.length : Int))
    (hk : ∀ h1, Rep h0 h1 s (setTab S i true) → K h1) : ldL h ⟨s, 21, none⟩ fun x15 x15n x15c => nz x15 fun p20 => 0 ≤ i ∧ i < (x15n : Int) ∧ stN (p20.add ((i).toNat * 1)) [.bool true] 0 h K := by
  obtain ⟨A, oM, oO, oP, oT, oG, oK, oL, ho, hp⟩ := hs
  have hl := hp.4.1
  refine ldL0 ho rfl ?_
  have hoA : Own h0 h (((s, scrC S A, 80) :: (oM ++ (oO ++ oP))) ++ (oT ++ (oG ++ (oK ++ oL)))) := by simpa using ho
  obtain ⟨p, hpp, d⟩ := SlO.get tf_len hp.4 hoA i.toNat false (by omega)
  rw [hpp]
  refine nz_i ⟨i0, by omega, ?_⟩
  refine SlO.set tf_len hp.4 hoA i.toNat true (by omega) hpp fun h2 o2 ho2 hs2 => ?_
  have ho2 : Own h0 h2 ((s, scrC S A, 80) :: (oM ++ (oO ++ (oP ++ (o2 ++ (oG ++ (oK ++ oL))))))) := by simpa using ho2
  have ho2 := own_cs (c' := scrC (setTab S i true) A) ho2 (by kernel_rfl)
  exact hk h2 ⟨A, oM, oO, oP, o2, oG, oK, oL, ho2, hp.1, hp.2, hp.3, hs2, hp.5, hp.6, hp.7⟩
theorem stops_l0 {h0 : Base} {s : Nat} {K : Heap → Prop} : ∀ (q : Nat) (i : Int) (S : Scr) (h : Heap), Rep h0 h s S → S.w ≤ 1000 → (S.tabs.length : Int) = S.w → 0 ≤ i → i ≤ 2000 → (S.w - i).toNat ≤ q → (∀ h1, Rep h0 h1 s (setTabs S (stopsL S.w q i S.tabs)) → K h1) → vt_Screen_stops_l0 K (q + 1) ⟨s, 0, none⟩ i h := by
  intro q
  induction q with
  | zero =>
    intro i S h hs hw hl i0 i1 hq hk
    unfold vt_Screen_stops_l0
    refine hs.ldi (v := S.w) (fun A => rfl) ?_
    rw [if_neg (by omega)]
    exact hk h hs
  | succ q ih =>
    intro i S h hs hw hl i0 i1 hq hk
    unfold vt_Screen_stops_l0
    unfold stopsL at hk
    refine hs.ldi (v := S.w) (fun A => rfl) ?_
    by_cases hi : i < S.w
    · rw [if_pos hi] at hk ⊢
      simp only [add0, Nat.zero_add]
      refine hs.tabAt i0 (by omega) fun h1 hs1 => ?_
      rw [wrap64 (by omega) (by omega)]
      exact ih (i + 8) _ h1 hs1 hw (by show ((S.tabs.set i.toNat true).length : Int) = S.w; rw [List.length_set]; exact hl) (by omega) (by omega) (by show (S.w - (i + 8)).toNat ≤ q; omega) hk
    · rw [if_neg hi] at hk ⊢
      exact hk h hs
theorem stops_sp {h0 : Base} {h : Heap} {s : Nat} {S : Scr} {K : Heap → Prop} (hs : Rep h0 h s S) (w0 : 1 ≤ S.w) (w1 : S.w ≤ 1000) (hk : ∀ h1, Rep h0 h1 s (stopsV S) → K h1) : vt_Screen_stops (some ⟨s, 0, none⟩) K h := by
  obtain ⟨A, oM, oO, oP, oT, oG, oK, oL, ho, hp⟩ := hs
  unfold vt_Screen_stops
  refine nz_i ?_
  simp only [add0, Nat.zero_add]
  refine ldI0 ho rfl ?_
  refine mk_o ho (show 0 ≤ S.w by omega) (show (1 : Int) * S.w ≤ _ by omega) (show S.w ≤ _ by omega) fun b h1 ho1 => ?_
  have ho1 := ho1.perm (List.Perm.swap _ _ _)
  refine st0 ho1 rfl fun h2 ho2 => ?_
  have hz : SlO tf 1 4 (some ⟨b, 0, none⟩) S.w.toNat S.w.toNat (List.replicate S.w.toNat false) [(b, (zeros (tf false) S.w.toNat).toArray, 4)] := zeros_slo false
  have ho2 := own_cs (c' := scrC (setTabs S (List.replicate S.w.toNat false)) { A with t := some ⟨b, 0, none⟩, tn := S.w.toNat, tc := S.w.toNat }) ho2 (by kernel_rfl)
  have ho3 : Own h0 h2 (oT ++ ((s, scrC (setTabs S (List.replicate S.w.toNat false)) { A with t := some ⟨b, 0, none⟩, tn := S.w.toNat, tc := S.w.toNat }, 80) :: (oM ++ (oO ++ (oP ++ ([(b, (zeros [Value.bool false] S.w.toNat).toArray, 4)] ++ (oG ++ (oK ++ oL)))))))) := ho2.perm (by exact pc)
  have hs3 : Rep h0 h2 s (setTabs S (List.replicate S.w.toNat false)) := ⟨{ A with t := some ⟨b, 0, none⟩, tn := S.w.toNat, tc := S.w.toNat }, oM, oO, oP, _, oG, oK, oL, ho3.sub (List.sublist_append_right _ _), hp.1, hp.2, hp.3, hz, hp.5, hp.6, hp.7⟩
  refine ⟨S.w.toNat + 1, stops_l0 S.w.toNat 8 _ h2 hs3 w1 ?_ (by omega) (by omega) ?_ hk⟩
  · show ((List.replicate S.w.toNat false).length : Int) = S.w
    rw [List.length_replicate]; omega
  · show (S.w - 8).toNat ≤ _
    omega

/-! ### All is as it was at first -/
theorem reset_sp {h0 : Base} {h : Heap} {s : Nat} {S : Scr} {K : Heap → Prop} (hs : Rep h0 h s S) (w0 : 1 ≤ S.w) (w1 : S.w ≤ 1000) (hh0 : 1 ≤ S.h) (hh1 : S.h ≤ 1000) (hk : ∀ h1, Rep h0 h1 s (resetV S) → K h1) : vt_Screen_reset (some ⟨s, 0, none⟩) K h := by
  obtain ⟨A, oM, oO, oP, oT, oG, oK, oL, ho, hp⟩ := hs
  unfold vt_Screen_reset
  refine nz_i ?_
  simp only [add0, Nat.zero_add]
  refine ldI0 ho rfl ?_
  refine ldI0 ho rfl ?_
  refine ldI0 ho rfl ?_
  refine ldL0 ho rfl ?_
  refine ldI0 ho rfl ?_
  refine ldS0 ho rfl ?_
  refine ldI0 ho rfl ?_
  rw [wrap64 (x := S.h - 1) (by omega) (by omega)]
  refine newB_o ho fun b h1 ho1 => ?_
  have ho1 := own_cs (c' := scrC (bare S.w S.h S.most S.past S.bells S.answer) ⟨none, 0, 0, none, none, 0, 0, none, A.p, A.pn, A.pc, none, 0, 0, none, 0, 0⟩) ho1 (by kernel_rfl)
  refine ldI0 ho1 rfl ?_
  refine ldI0 ho1 rfl ?_
  refine ldI0 ho1 rfl ?_
  refine ldL0 ho1 rfl ?_
  refine ldP0 ho1 rfl ?_
  refine ldL0 ho1 rfl ?_
  refine ldP0 ho1 rfl ?_
  refine ldB0 ho1 rfl ?_
  refine ldL0 ho1 rfl ?_
  refine ldI0 ho1 rfl ?_
  refine ldI0 ho1 rfl ?_
  refine ldI0 ho1 rfl ?_
  refine ldI0 ho1 rfl ?_
  refine ldI0 ho1 rfl ?_
  refine ldB0 ho1 rfl ?_
  refine ldB0 ho1 rfl ?_
  refine ldB0 ho1 rfl ?_
  refine ldB0 ho1 rfl ?_
  refine ldB0 ho1 rfl ?_
  refine ldI0 ho1 rfl ?_
  refine ldI0 ho1 rfl ?_
  refine ldL0 ho1 rfl ?_
  refine ldB0 ho1 rfl ?_
  refine ldB0 ho1 rfl ?_
  refine ldB0 ho1 rfl ?_
  refine ldB0 ho1 rfl ?_
  refine ldB0 ho1 rfl ?_
  refine ldB0 ho1 rfl ?_
  refine ldS0 ho1 rfl ?_
  refine ldI0 ho1 rfl ?_
  refine ldS0 ho1 rfl ?_
  refine ldI0 ho1 rfl ?_
  refine ldL0 ho1 rfl ?_
  refine ldB0 ho1 rfl ?_
  refine ldI0 ho1 rfl ?_
  refine ldI0 ho1 rfl ?_
  refine ldI0 ho1 rfl ?_
  refine ldI0 ho1 rfl ?_
  refine ldI0 ho1 rfl ?_
  refine ldI0 ho1 rfl ?_
  refine ldI0 ho1 rfl ?_
  have ho1 := ho1.perm (List.Perm.swap _ _ _)
  refine st0 ho1 rfl fun h2 ho2 => ?_
  have ho2 := own_cs (c' := scrC (bare S.w S.h S.most S.past S.bells S.answer) ⟨none, 0, 0, none, none, 0, 0, none, A.p, A.pn, A.pc, none, 0, 0, none, 0, 0⟩) ho2 (by kernel_rfl)
  refine ldI0 ho2 rfl ?_
  refine ldI0 ho2 rfl ?_
  have ho3 : Own h0 h2 (((b, scrC (bare S.w S.h S.most S.past S.bells S.answer) ⟨none, 0, 0, none, none, 0, 0, none, A.p, A.pn, A.pc, none, 0, 0, none, 0, 0⟩, 80) :: (oM ++ (oO ++ (oT ++ (oG ++ (oK ++ oL)))))) ++ ((s, scrC (bare S.w S.h S.most S.past S.bells S.answer) ⟨none, 0, 0, none, none, 0, 0, none, A.p, A.pn, A.pc, none, 0, 0, none, 0, 0⟩, 80) :: oP)) := ho2.perm (by exact pc)
  have ho3 := ho3.sub (List.sublist_append_right _ _)
  refine sheet_sp (w := S.w) (hh := S.h) ho3 (by omega) (by omega) (by omega) (by omega) fun a n c oS h4 ho4 hR => ?_
  have ho4 := ho4.perm List.perm_append_comm
  refine st0 ho4 rfl fun h5 ho5 => ?_
  have ho5 := own_cs (c' := scrC { bare S.w S.h S.most S.past S.bells S.answer with main := sheetV S.w S.h 0 0 0 } ⟨a, n, c, none, none, 0, 0, none, A.p, A.pn, A.pc, none, 0, 0, none, 0, 0⟩) ho5 (by kernel_rfl)
  have hs5 : Rep h0 h5 s { bare S.w S.h S.most S.past S.bells S.answer with main := sheetV S.w S.h 0 0 0 } := by
    refine ⟨⟨a, n, c, none, none, 0, 0, none, A.p, A.pn, A.pc, none, 0, 0, none, 0, 0⟩, oS, [], oP, [], [], [], [], ?_, hR, ⟨[], [], [], rfl, SlO.nil, RowsB.nil⟩, hp.3, SlO.nil, SlO.nil, ⟨rfl, rfl⟩, ⟨rfl, rfl⟩⟩
    exact Own.perm (l := (s, scrC { bare S.w S.h S.most S.past S.bells S.answer with main := sheetV S.w S.h 0 0 0 } ⟨a, n, c, none, none, 0, 0, none, A.p, A.pn, A.pc, none, 0, 0, none, 0, 0⟩, 80) :: (oP ++ oS)) ho5 (by exact pc)
  exact stops_sp hs5 w0 w1 hk
end Go.Proofs.YthjdnhhifjpidaaGreatDoor.M
set_option maxRecDepth 100000
namespace Go.Proofs.YthjdnhhifjpidaaGreatDoor.M
open Go Go.Hp

/-! ### An escape -/
theorem rep_of_all {n : Nat} {r : List Gl} {g : Gl} (hl : n = r.length) (hr : ∀ j, j < n → r.getD j gl0 = g) : r = List.replicate n g := by
  apply List.ext_getElem?
  intro j
  by_cases hj : j < n
  · have := hr j hj
    rw [List.getD_eq_getElem?_getD, List.getElem?_eq_getElem (by omega)] at this
    rw [List.getElem?_eq_getElem (by omega), List.getElem?_replicate, if_pos hj]
    exact congrArg some this
  · rw [List.getElem?_eq_none (by omega), List.getElem?_replicate, if_neg hj]
theorem escaped_l2 {h0 : Base} {pre l : Blks} {z1 : Addr} {z2 : Int} {z3 : Option Addr} {z4 z5 : Nat} {z6 z7 : Int} {a : Option Addr} {n c : Nat} {K3 : Addr → Int → Option Addr → Nat → Nat → Int → Int → Heap → Prop} (hn : n ≤ 100000) :
    ∀ (q : Nat) (i : Nat) (h : Heap) (r : List Gl) (o : Blks), SlO gf 5 52 a n c r o → Own h0 h (pre ++ (o ++ l)) → n - i = q → i ≤ n → (∀ j, j < i → r.getD j gl0 = eG) →
      (∀ h' o', Own h0 h' (pre ++ (o' ++ l)) → SlO gf 5 52 a n c (List.replicate n eG) o' → K3 z1 z2 z3 z4 z5 z6 z7 h') → vt_Screen_escaped_l2 K3 (q + 1) z1 z2 a n c z3 z4 z5 z6 z7 (n : Int) i h := by
  intro q
  induction q with
  | zero =>
    intro i h r o hs ho hq hi hr hk
    unfold vt_Screen_escaped_l2
    rw [if_neg (by omega)]
    have e := rep_of_all hs.1 (fun j hj => hr j (by omega))
    rw [e] at hs
    exact hk h o ho hs
  | succ q ih =>
    intro i h r o hs ho hq hi hr hk
    unfold vt_Screen_escaped_l2
    rw [if_pos (by omega)]
    obtain ⟨p, hp, _⟩ := hs.get gf_len ho i gl0 (by omega)
    rw [hp]
    refine nz_i ⟨by omega, by omega, ?_⟩
    rw [show ((i : Int)).toNat = i by omega]
    refine SlO.set gf_len hs ho i eG (by omega) hp fun h2 o2 ho2 hs2 => ?_
    rw [wrap64 (by omega) (by omega), show (i : Int) + 1 = ((i + 1 : Nat) : Int) by omega, ← hp]
    have hl := hs.1
    refine ih (i + 1) h2 _ o2 hs2 ho2 (by omega) (by omega) (fun j hj => ?_) hk
    by_cases hji : j = i
    · subst hji
      rw [List.getD_eq_getElem?_getD, List.getElem?_set_self (by omega)]
      rfl
    · rw [List.getD_eq_getElem?_getD, List.getElem?_set_ne (by omega), ← List.getD_eq_getElem?_getD]
      exact hr j (by omega)
theorem escaped_l1 {h0 : Base} {s : Nat} {b : Int} {a : Option Addr} {nr c : Nat} {K1 : Addr → Int → Heap → Prop} :
    ∀ (q i : Nat) (S : Scr) (h : Heap), RepX h0 h s S [] → Ok S → cellH h (shA S s) = some (.slice a nr c) → ((i + q : Nat) : Int) = S.h → (nr : Int) = S.h → (∀ h1, Rep h0 h1 s (allEL q i S) → K1 ⟨s, 0, none⟩ b h1) →
      vt_Screen_escaped_l1 K1 (q + 1) ⟨s, 0, none⟩ b a nr c (nr : Int) i h := by
  intro q
  induction q with
  | zero =>
    intro i S h hs o hc hi hn hk
    unfold vt_Screen_escaped_l1
    rw [if_neg (by omega)]
    exact hk h hs.rep
  | succ q ih =>
    intro i S h hs o hc hi hn hk
    unfold vt_Screen_escaped_l1
    unfold allEL at hk
    rw [if_pos (by omega)]
    have hsh := o.d.sh
    have hw1 := o.d.w1
    have hh1 := o.d.h1
    have hg := o.getAt (y := i) (by omega)
    obtain ⟨p, a', n', c', ob, pre, l, hp, hn2, hd, hsl, ho, hback⟩ := hs.rowc i (by omega) hc
    subst hp
    have hl := hsl.1
    have hte : ((i : Int)).toNat = i := by omega
    refine nz_i ⟨by omega, by omega, ⟨_, _, _, by rw [hte]; exact hd, ⟨n' + 1, ?_⟩⟩⟩
    refine escaped_l2 (by omega) n' 0 h _ ob hsl ho (by omega) (by omega) (fun j hj => by omega) fun h1 o1 ho1 hs1 => ?_
    rw [wrap64 (by omega) (by omega), show (i : Int) + 1 = ((i + 1 : Nat) : Int) by omega]
    obtain ⟨hs2, hc2⟩ := hback h1 o1 _ ho1 hs1
    rw [hl] at hs2
    have hf := setSh_w S (S.sh.set i (List.replicate (S.sh.getD i []).length eG))
    refine ih (i + 1) _ h1 hs2 (o.setAt (by rw [List.length_replicate]; exact hg)) (by rw [shA_alt hf.2.1]; exact hc2) (by rw [show (S.setSh _).h = S.h from hf.2.2]; omega) (by rw [show (S.setSh _).h = S.h from hf.2.2]; exact hn) hk
theorem setPl_st {h0 : Base} {h : Heap} {s : Nat} {S : Scr} {off : Nat} {vs : List Value} {K : Heap → Prop} (p : Pl) (hs : Rep h0 h s S) (hle : off + vs.length ≤ 41) (e : ∀ A, setL (scrC S A) off vs = scrC (S.setPl p) A) (hk : ∀ h1, Rep h0 h1 s (S.setPl p) → K h1) : stN ⟨s, off, none⟩ vs 0 h K := by
  obtain ⟨A, oM, oO, oP, oT, oG, oK, oL, ho, hp⟩ := hs
  refine st0 ho (Nat.ble_eq_true_of_le (by rw [scrC_size]; exact hle)) fun h1 ho1 => hk h1 ?_
  have ho1 := own_cs ho1 (e A)
  exact ⟨A, oM, oO, oP, oT, oG, oK, oL, by assumption, hp.1, hp.2, hp.3, hp.4, hp.5, hp.6, hp.7⟩
theorem Rep.bytes {h0 : Base} {h : Heap} {s : Nat} {S : Scr} {K : Option Addr → Nat → Nat → Prop} (hs : Rep h0 h s S) (hk : ∀ a n c, BAt h a n S.gathered → n ≤ c → K a n c) : ldL h ⟨s, 32, none⟩ K := by
  obtain ⟨A, oM, oO, oP, oT, oG, oK, oL, ho, hp⟩ := hs
  exact ldL0 ho rfl (hk _ _ _ (gath_at (o := []) hp (by simpa using ho)) (slo_cap hp.gath))
section
variable {h0 : Base} {h : Heap} {s : Nat} {S : Scr} {b : Int} {K : Heap → Prop}
theorem escaped_jr {Kn : Heap → Prop} (hs : Rep h0 h s S) (hg : 0 < S.gathered.length) (hk : K h) : vt_Screen_escaped_j0 Kn K ⟨s, 0, none⟩ b h := by
  unfold vt_Screen_escaped_j0
  simp only [add0, Nat.zero_add]
  refine hs.bytes fun a n c hb hc => ?_
  have := hb.1
  rw [if_pos (by omega)]
  exact hk
theorem escaped_j0 (hs : Rep h0 h s S) (o : Ok S) (hg : S.gathered.length = 0) (hk : ∀ h1, Rep h0 h1 s (escaped0 S b) → K h1) : vt_Screen_escaped_j0 K K ⟨s, 0, none⟩ b h := by
  have y0 := o.c.p.y0
  have y1 := o.c.p.y1
  have hh1 := o.d.h1
  unfold vt_Screen_escaped_j0
  unfold escaped0 at hk
  simp only [add0, Nat.zero_add]
  refine hs.bytes fun a n c hb hc => ?_
  have := hb.1
  rw [if_neg (by omega)]
  by_cases h1 : b = 55
  · rw [if_pos h1] at hk ⊢
    exact keepCursor_sp hs hk
  rw [if_neg h1] at hk ⊢
  by_cases h2 : b = 56
  · rw [if_pos h2] at hk ⊢
    exact backCursor_sp hs hk
  rw [if_neg h2] at hk ⊢
  by_cases h3 : b = 69
  · rw [if_pos h3] at hk ⊢
    exact setX_st hs fun h6 hs6 => feed_sp hs6 o.zeroX hk
  rw [if_neg h3] at hk ⊢
  by_cases h4 : b = 68
  · rw [if_pos h4] at hk ⊢
    exact feed_sp hs o hk
  rw [if_neg h4] at hk ⊢
  by_cases h5 : b = 77
  · rw [if_pos h5] at hk ⊢
    refine hs.ldi (v := S.pl.y) (fun A => rfl) ?_
    refine hs.ldi (v := S.top) (fun A => rfl) ?_
    by_cases h6 : S.pl.y = S.top
    · rw [if_pos h6] at hk ⊢
      refine hs.ldi (v := S.top) (fun A => rfl) ?_
      refine hs.ldi (v := S.bottom) (fun A => rfl) ?_
      exact down_sp hs o.d o.c.t0 o.c.tb o.c.bh fun h5 hs5 => unwait_st hs5 hk
    · rw [if_neg h6] at hk ⊢
      refine hs.ldi (v := S.pl.x) (fun A => rfl) ?_
      refine hs.ldi (v := S.pl.y) (fun A => rfl) ?_
      rw [wrap64 (x := S.pl.y - 1) (by omega) (by omega)]
      exact to_sp hs hk
  rw [if_neg h5] at hk ⊢
  by_cases h6 : b = 72
  · rw [if_pos h6] at hk ⊢
    exact hs.tabset (b := true) (K := K) o hk
  rw [if_neg h6] at hk ⊢
  by_cases h7 : b = 99
  · rw [if_pos h7] at hk ⊢
    exact reset_sp hs o.d.w0 o.d.w1 o.d.h0 o.d.h1 hk
  · rw [if_neg h7] at hk ⊢
    exact hk h hs
theorem allE_pl (S : Scr) : ∀ (q i : Nat) (S : Scr), (allEL q i S).h = S.h ∧ (allEL q i S).gathered = S.gathered
  | 0, _, S => ⟨rfl, rfl⟩
  | q + 1, i, S => by
    have h1 := allE_pl S q (i + 1) (S.setAt i (List.replicate (S.sh.getD i []).length eG))
    have h2 := (setSh_w S (S.sh.set i (List.replicate (S.sh.getD i []).length eG))).2.2
    have h3 : (S.setSh (S.sh.set i (List.replicate (S.sh.getD i []).length eG))).gathered = S.gathered := by unfold Scr.setSh; split <;> rfl
    exact ⟨h1.1.trans h2, h1.2.trans h3⟩
theorem escaped_sp (hs : Rep h0 h s S) (o : Ok S) (hk : ∀ h1, Rep h0 h1 s (escapedV S b) → K h1) : vt_Screen_escaped (some ⟨s, 0, none⟩) b K h := by
  have hh0 := o.d.h0
  have hh1 := o.d.h1
  unfold vt_Screen_escaped
  unfold escapedV at hk
  refine nz_i ?_
  simp only [add0, Nat.zero_add]
  refine hs.bytes fun a n c hb hc => ?_
  have hn := hb.1
  by_cases h1 : S.gathered.length = 1
  case neg =>
    rw [if_neg h1] at hk
    rw [if_neg (by omega)]
    by_cases h2 : 0 < S.gathered.length
    · rw [if_pos h2] at hk
      exact escaped_jr hs h2 (hk h hs)
    · rw [if_neg h2] at hk
      exact escaped_j0 hs o (by omega) hk
  rw [if_pos h1] at hk
  rw [if_pos (by omega)]
  unfold escaped1 at hk
  have hgl : 0 < S.gathered.length := by omega
  refine hs.bytes fun a n c hb hc => ?_
  have hn := hb.1
  obtain ⟨p, hp, hd⟩ := hb.2 0 (by omega)
  subst hp
  refine nz_i ⟨by omega, by omega, ⟨_, hd, ?_⟩⟩
  by_cases h2 : S.gathered.getD 0 0 = 40
  · rw [if_pos h2] at hk ⊢
    refine setPl_st { S.pl with l0 := decide (b = 48) } hs (by simp) (fun A => by kernel_rfl) fun h3 hs3 => ?_
    exact escaped_jr hs3 hgl (hk h3 hs3)
  rw [if_neg h2] at hk ⊢
  refine hs.bytes fun a n c hb hc => ?_
  have hn := hb.1
  obtain ⟨p, hp, hd⟩ := hb.2 0 (by omega)
  subst hp
  refine nz_i ⟨by omega, by omega, ⟨_, hd, ?_⟩⟩
  by_cases h3 : S.gathered.getD 0 0 = 41
  · rw [if_pos h3] at hk ⊢
    refine setPl_st { S.pl with l1 := decide (b = 48) } hs (by simp) (fun A => by kernel_rfl) fun h3 hs3 => ?_
    exact escaped_jr hs3 hgl (hk h3 hs3)
  rw [if_neg h3] at hk ⊢
  refine hs.bytes fun a n c hb hc => ?_
  have hn := hb.1
  obtain ⟨p, hp, hd⟩ := hb.2 0 (by omega)
  subst hp
  refine nz_i ⟨by omega, by omega, ⟨_, hd, ?_⟩⟩
  by_cases h4 : S.gathered.getD 0 0 = 35 ∧ b = 56
  case neg =>
    rw [if_neg h4] at hk
    rw [if_neg (by simpa using h4)]
    exact escaped_jr hs hgl (hk h hs)
  rw [if_pos h4] at hk
  rw [if_pos (by simpa using h4)]
  obtain ⟨ra, rn, rc, hcell⟩ := hs.shcell
  have hnr : (rn : Int) = S.h := by
    obtain ⟨A, a', n', c', ks, oh, bs, l, ho, hc', h1, h2, h3⟩ := hs.focus
    rw [hcell] at hc'
    obtain ⟨rfl, rfl, rfl⟩ : ra = a' ∧ rn = n' ∧ rc = c' := by simpa using hc'
    have := h1.1
    have := h2.1
    have := o.d.sh.1
    omega
  have hX : RepX h0 h s S [] := by
    obtain ⟨A, oM, oO, oP, oT, oG, oK, oL, ho, hp⟩ := hs
    exact ⟨A, oM, oO, oP, oT, oG, oK, oL, by simpa using ho, hp⟩
  have rest : ∀ q : Addr, shA S s = q → nz (some q) fun p115 =>
    ldL h p115 fun x116 x116n x116c =>
    ∃ k188, vt_Screen_escaped_l1
     (fun z173 z174 h175 =>
       ldI h175 .i64 (z173.add 1) fun x176 =>
       stN (z173.add 19) [.int .i64 0] 0 h175 fun h179 =>
       stN (z173.add 20) [.int .i64 (IntKind.wrap .i64 (x176 - 1))] 0 h179 fun h180 =>
       vt_Screen_to (some z173) 0 0 (fun  h181 =>
        vt_Screen_escaped_j0
         (fun  h182 =>
             K h182)
         (fun  h184 =>
                 K h184) z173 z174 h181) h180) k188 ⟨s, 0, none⟩ b x116 x116n x116c (x116n : Int) 0 h := by
    intro q hq
    rw [hq] at hcell
    refine nz_i ⟨_, _, _, hcell, ⟨S.h.toNat + 1, ?_⟩⟩
    refine escaped_l1 S.h.toNat 0 S h hX o (by rw [hq]; exact hcell) (by omega) hnr fun h5 hs5 => ?_
    have hS : (allE S).h = S.h ∧ (allE S).gathered = S.gathered := allE_pl S _ _ S
    have hs5 : Rep h0 h5 s (allE S) := hs5
    simp only [add0, Nat.zero_add]
    refine hs5.ldi (v := (allE S).h) (fun A => rfl) ?_
    rw [hS.1, wrap64 (x := S.h - 1) (by omega) (by omega), ← hS.1]
    obtain ⟨A, oM, oO, oP, oT, oG, oK, oL, ho, hp⟩ := hs5
    refine st0 ho rfl fun h6 ho6 => ?_
    refine st0 ho6 rfl fun h7 ho7 => ?_
    have ho7 := own_cs (c' := scrC (whole (allE S)) A) ho7 (by kernel_rfl)
    have hs7 : Rep h0 h7 s (whole (allE S)) := ⟨A, oM, oO, oP, oT, oG, oK, oL, ho7, hp.1, hp.2, hp.3, hp.4, hp.5, hp.6, hp.7⟩
    refine to_sp hs7 fun h8 hs8 => ?_
    exact escaped_jr hs8 (by show 0 < (allE S).gathered.length; rw [hS.2]; exact hgl) (hk h8 hs8)
  refine shown_sp hs (fun ha => ?_) (fun ha => ?_)
  · exact rest _ (by unfold shA; rw [if_pos ha])
  · exact rest _ (by unfold shA; rw [if_neg (by rw [ha]; decide)])
end
end Go.Proofs.YthjdnhhifjpidaaGreatDoor.M
set_option maxRecDepth 100000
namespace Go.Proofs.YthjdnhhifjpidaaGreatDoor.M
open Go Go.Hp

/-! ### A title, a character that is not whole -/
section
variable {h0 : Base} {h : Heap} {s : Nat} {S : Scr} {b : Int} {K : Heap → Prop}
theorem imin_130 {x : Int} (h : 2 ≤ x) : 0 ≤ imin x 130 ∧ imin x 130 ≤ x ∧ 2 ≤ imin x 130 := by
  unfold imin
  split <;> omega
theorem named_sp (hs : Rep h0 h s S) (hk : ∀ h1, Rep h0 h1 s (namedV S) → K h1) : vt_Screen_named (some ⟨s, 0, none⟩) K h := by
  unfold vt_Screen_named
  unfold namedV at hk
  refine nz_i ?_
  simp only [add0, Nat.zero_add]
  refine hs.bytes fun a n c hb hc => ?_
  refine hb.byts ?_
  have st : 2 ≤ ((bytesOf S.gathered).size : Int) → (∀ h1, Rep h0 h1 s (titled S) → K h1) →
    0 ≤ (imin ((bytesOf S.gathered).size : Int) 130) ∧
    (imin ((bytesOf S.gathered).size : Int) 130) ≤ ((bytesOf S.gathered).size : Int) ∧
    (2 : Int) ≤ (imin ((bytesOf S.gathered).size : Int) 130) ∧
    stN ⟨s, 28, none⟩ [.string ((bytesOf S.gathered).extract ((2 : Int).toNat) ((imin ((bytesOf S.gathered).size : Int) 130).toNat))] 0 h fun h22 =>
    K h22 := by
    intro h2 hk
    have := imin_130 h2
    refine ⟨this.1, this.2.1, this.2.2, ?_⟩
    obtain ⟨A, oM, oO, oP, oT, oG, oK, oL, ho, hp⟩ := hs
    refine st0 ho rfl fun h1 ho1 => ?_
    have ho1 := own_cs (c' := scrC (titled S) A) ho1 (by kernel_rfl)
    exact hk h1 ⟨A, oM, oO, oP, oT, oG, oK, oL, ho1, hp.1, hp.2, hp.3, hp.4, hp.5, hp.6, hp.7⟩
  generalize hbs : bytesOf S.gathered = bs at *
  by_cases h1 : 2 ≤ (bs.size : Int)
  case neg =>
    rw [if_neg h1] at hk ⊢
    exact hk h hs
  rw [if_pos h1] at hk ⊢
  refine ⟨by omega, ?_⟩
  by_cases h2 : byteAt bs 0 = 48
  · rw [if_pos h2] at hk ⊢
    refine ⟨by omega, ?_⟩
    by_cases h3 : byteAt bs 1 = 59
    · rw [if_pos h3] at hk ⊢
      exact st h1 hk
    · rw [if_neg h3] at hk ⊢
      exact hk h hs
  rw [if_neg h2] at hk ⊢
  refine ⟨by omega, ?_⟩
  by_cases h3 : byteAt bs 0 = 50
  · rw [if_pos h3] at hk ⊢
    refine ⟨by omega, ?_⟩
    by_cases h4 : byteAt bs 1 = 59
    · rw [if_pos h4] at hk ⊢
      exact st h1 hk
    · rw [if_neg h4] at hk ⊢
      exact hk h hs
  · rw [if_neg h3] at hk ⊢
    exact hk h hs
theorem broken_sp (hs : Rep h0 h s S) (o : Ok S) (hk : ∀ h1, Rep h0 h1 s (brokenV S) → K h1) : vt_Screen_broken (some ⟨s, 0, none⟩) K h := by
  unfold vt_Screen_broken
  unfold brokenV at hk
  refine nz_i ?_
  simp only [add0, Nat.zero_add]
  refine hs.ldi (v := S.have_) (fun A => rfl) ?_
  by_cases h1 : 0 < S.have_
  · rw [if_pos h1] at hk ⊢
    obtain ⟨A, oM, oO, oP, oT, oG, oK, oL, ho, hp⟩ := hs
    refine st0 ho rfl fun h1 ho1 => ?_
    have ho1 := own_cs (c' := scrC (noHave S) A) ho1 (by kernel_rfl)
    have hs1 : Rep h0 h1 s (noHave S) := ⟨A, oM, oO, oP, oT, oG, oK, oL, ho1, hp.1, hp.2, hp.3, hp.4, hp.5, hp.6, hp.7⟩
    exact write_sp hs1 o.noHave hk
  · rw [if_neg h1] at hk ⊢
    exact hk h hs
theorem goes_sp {K : Bool → Heap → Prop} (hs : Rep h0 h s S) (hk : K (goesV S b) h) : vt_Screen_goes (some ⟨s, 0, none⟩) b K h := by
  unfold vt_Screen_goes vt_Screen_goes_j0
  unfold goesV loV hiV at hk
  refine nz_i ?_
  simp only [add0, Nat.zero_add]
  refine hs.ldi (v := S.have_) (fun A => rfl) ?_
  by_cases h1 : S.have_ = 1
  case neg =>
    simp only [if_neg h1] at hk ⊢
    exact hk
  simp only [if_pos h1] at hk ⊢
  refine hs.ldi (v := S.u0) (fun A => rfl) ?_
  by_cases h2 : S.u0 = 224
  · simp only [if_pos h2] at hk ⊢
    exact hk
  simp only [if_neg h2] at hk ⊢
  by_cases h3 : S.u0 = 237
  · simp only [if_pos h3] at hk ⊢
    exact hk
  simp only [if_neg h3] at hk ⊢
  by_cases h4 : S.u0 = 240
  · simp only [if_pos h4] at hk ⊢
    exact hk
  simp only [if_neg h4] at hk ⊢
  by_cases h5 : S.u0 = 244
  · simp only [if_pos h5] at hk ⊢
    exact hk
  simp only [if_neg h5] at hk ⊢
  exact hk

/-! ### A character of several bytes -/
theorem first_rng : ∀ b : Fin 256, 0 ≤ firstT b.val ∧ firstT b.val < 256 ∧ 0 ≤ Int.fdiv (firstT b.val) (2 ^ 4) ∧ Int.fdiv (firstT b.val) (2 ^ 4) < 16 := by decide +kernel
theorem firstZ_len : Go.Pinned.utf8FirstZ.length = 256 := by decide +kernel
theorem first_at (ht : Tabs h) (n : Nat) (hn : n < 256) : cellH h ((⟨0, 0, none⟩ : Addr).add n) = some (.int .u8 (firstT n)) := by
  have := cellsAt_get ht.first n (v := .int .u8 (firstT n)) (by
    rw [List.getElem?_map, List.getElem?_eq_getElem (by rw [firstZ_len]; exact hn)]
    unfold firstT
    rw [List.getD_eq_getElem?_getD, List.getElem?_eq_getElem (by rw [firstZ_len]; exact hn)]
    rfl)
  rwa [Nat.zero_add] at this
theorem slow_sp {K : Int → Int → Heap → Prop} (ht : Tabs h0.h) (hs : Rep h0 h s S) (n : Nat) (h2 : 2 ≤ n) (u0 : 128 ≤ S.u0) (u1 : S.u0 ≤ 255) (hk : ∀ m h1, Rep h0 h1 s S → K (decV n S.u0 S.u1 S.u2 S.u3) m h1) :
    unicode_utf8_decodeRuneSlow (some ⟨s, 34, none⟩) n 4 K h := by
  have hr := first_rng ⟨S.u0.toNat, by omega⟩
  simp only [] at hr
  have hta := ht.ext hs.ext
  unfold unicode_utf8_decodeRuneSlow
  unfold decV at hk
  rw [if_neg (by omega)] at hk
  rw [if_neg (by omega)]
  refine nz_i ⟨by omega, by omega, ?_⟩
  simp only [add0]
  refine hs.ldi (off := 34) (v := S.u0) (fun A => rfl) ⟨by omega, by omega, ⟨firstT S.u0.toNat, ?_, ?_⟩⟩
  · have := first_at hta S.u0.toNat (by omega)
    rw [add0] at this
    rw [Nat.mul_one]
    exact this
  by_cases h1 : 240 ≤ firstT S.u0.toNat
  · rw [if_pos h1] at hk ⊢
    exact ⟨by omega, by omega, hs.ldi (off := 34) (v := S.u0) (fun A => rfl) (hk _ h hs)⟩
  rw [if_neg h1] at hk ⊢
  refine ⟨hr.2.2.1, hr.2.2.2, hta.acc, ?_⟩
  have esz : IntKind.wrap .i64 (iAnd .u8 (firstT S.u0.toNat) 7) = szT S.u0.toNat := rfl
  rw [esz]
  by_cases h3 : (n : Int) < szT S.u0.toNat
  · rw [if_pos h3] at hk ⊢
    intro h4 he4
    exact hk _ h4 (hs.gap he4)
  rw [if_neg h3] at hk ⊢
  refine ⟨by omega, by omega, fun h4 he4 => ?_⟩
  have hs4 := hs.gap he4
  refine hs4.ldi (off := 35) (v := S.u1) (fun A => rfl) ?_
  have eacc : tab1.getD (Int.fdiv (firstT S.u0.toNat) (2 ^ 4)).toNat tab1d = accT S.u0.toNat := rfl
  rw [eacc]
  by_cases h5 : S.u1 < (accT S.u0.toNat).1 ∨ (accT S.u0.toNat).2 < S.u1
  · rw [if_pos h5] at hk
    rw [if_pos (by simpa using h5)]
    exact hk _ h4 hs4
  rw [if_neg h5] at hk
  rw [if_neg (by simpa using h5)]
  by_cases h6 : szT S.u0.toNat ≤ 2
  · rw [if_pos h6] at hk ⊢
    exact hk _ h4 hs4
  rw [if_neg h6] at hk ⊢
  refine ⟨by omega, by omega, ?_⟩
  refine hs4.ldi (off := 36) (v := S.u2) (fun A => rfl) ?_
  by_cases h7 : S.u2 < 128 ∨ 191 < S.u2
  · rw [if_pos h7] at hk
    rw [if_pos (by simpa using h7)]
    exact hk _ h4 hs4
  rw [if_neg h7] at hk
  rw [if_neg (by simpa using h7)]
  by_cases h8 : szT S.u0.toNat ≤ 3
  · rw [if_pos h8] at hk ⊢
    exact hk _ h4 hs4
  rw [if_neg h8] at hk ⊢
  refine ⟨by omega, by omega, ?_⟩
  refine hs4.ldi (off := 37) (v := S.u3) (fun A => rfl) ?_
  by_cases h9 : S.u3 < 128 ∨ 191 < S.u3
  · rw [if_pos h9] at hk
    rw [if_pos (by simpa using h9)]
    exact hk _ h4 hs4
  · rw [if_neg h9] at hk
    rw [if_neg (by simpa using h9)]
    exact hk _ h4 hs4
theorem decode_sp {K : Int → Int → Heap → Prop} (ht : Tabs h0.h) (hs : Rep h0 h s S) (n : Nat) (h2 : 2 ≤ n) (u0 : 0 ≤ S.u0) (u1 : S.u0 ≤ 255) (hk : ∀ m h1, Rep h0 h1 s S → K (decV n S.u0 S.u1 S.u2 S.u3) m h1) :
    unicode_utf8_DecodeRune (some ⟨s, 34, none⟩) n 4 K h := by
  unfold unicode_utf8_DecodeRune
  refine ⟨0 + 1, ?_⟩
  unfold unicode_utf8_DecodeRune_l0
  show if (0 : Int) < (n : Int) then _ else _
  rw [if_pos (by omega)]
  refine nz_i ⟨by omega, by omega, ?_⟩
  simp only [add0]
  refine hs.ldi (off := 34) (v := S.u0) (fun A => rfl) ?_
  by_cases h1 : S.u0 < 128
  · unfold decV at hk
    rw [if_pos h1] at hk ⊢
    exact hk _ h hs
  · rw [if_neg h1]
    exact slow_sp ht hs n h2 (by omega) u1 hk
theorem Rep.setu (hs : Rep h0 h s S) {i : Int} (i0 : 0 ≤ i) (i1 : i < 4) (hk : ∀ h1, Rep h0 h1 s (setU S i b) → K h1) : stN ((⟨s, 34, none⟩ : Addr).add (i.toNat * 1)) [.int .u8 b] 0 h K := by
  have : i = 0 ∨ i = 1 ∨ i = 2 ∨ i = 3 := by omega
  obtain ⟨A, oM, oO, oP, oT, oG, oK, oL, ho, hp⟩ := hs
  rw [add0]
  rcases this with rfl | rfl | rfl | rfl
  · refine st0 ho rfl fun h1 ho1 => hk h1 ?_
    have ho1 := own_cs (c' := scrC (setU S 0 b) A) ho1 (by kernel_rfl)
    exact ⟨A, oM, oO, oP, oT, oG, oK, oL, ho1, hp.1, hp.2, hp.3, hp.4, hp.5, hp.6, hp.7⟩
  · refine st0 ho rfl fun h1 ho1 => hk h1 ?_
    have ho1 := own_cs (c' := scrC (setU S 1 b) A) ho1 (by kernel_rfl)
    exact ⟨A, oM, oO, oP, oT, oG, oK, oL, ho1, hp.1, hp.2, hp.3, hp.4, hp.5, hp.6, hp.7⟩
  · refine st0 ho rfl fun h1 ho1 => hk h1 ?_
    have ho1 := own_cs (c' := scrC (setU S 2 b) A) ho1 (by kernel_rfl)
    exact ⟨A, oM, oO, oP, oT, oG, oK, oL, ho1, hp.1, hp.2, hp.3, hp.4, hp.5, hp.6, hp.7⟩
  · refine st0 ho rfl fun h1 ho1 => hk h1 ?_
    have ho1 := own_cs (c' := scrC (setU S 3 b) A) ho1 (by kernel_rfl)
    exact ⟨A, oM, oO, oP, oT, oG, oK, oL, ho1, hp.1, hp.2, hp.3, hp.4, hp.5, hp.6, hp.7⟩
end
end Go.Proofs.YthjdnhhifjpidaaGreatDoor.M
set_option maxRecDepth 100000
namespace Go.Proofs.YthjdnhhifjpidaaGreatDoor.M
open Go Go.Hp

/-! ### What a byte does -/
section
variable {h0 : Base} {h : Heap} {s : Nat} {S : Scr} {b : Int} {K : Heap → Prop}
theorem does_j0 {q : Bool} (hs : Rep h0 h s S) (o : Ok S) (h1 : ¬ b = 7) (h2 : ¬ b = 8) (h3 : ¬ b = 9) (hq : q = decide (b = 10 ∨ b = 11 ∨ b = 12)) (hk : ∀ h1, Rep h0 h1 s (doesV S b) → K h1) : vt_Screen_does_j0 K (some ⟨s, 0, none⟩) b q h := by
  unfold vt_Screen_does_j0
  unfold doesV at hk
  rw [if_neg h1, if_neg h2, if_neg h3] at hk
  subst hq
  by_cases h4 : b = 10 ∨ b = 11 ∨ b = 12
  · rw [if_pos h4] at hk
    rw [if_pos (by simpa using h4)]
    refine nz_i ?_
    simp only [add0, Nat.zero_add]
    refine hs.ldb (v := S.newline) (fun A => rfl) ?_
    by_cases h5 : S.newline = true
    · rw [if_pos h5] at hk ⊢
      exact setX_st hs fun h6 hs6 => feed_sp hs6 o.zeroX hk
    · rw [if_neg h5] at hk ⊢
      exact feed_sp hs o hk
  rw [if_neg h4] at hk
  rw [if_neg (by simpa using h4)]
  by_cases h5 : b = 13
  · rw [if_pos h5] at hk ⊢
    refine nz_i ?_
    simp only [add0, Nat.zero_add]
    refine hs.ldi (v := S.pl.y) (fun A => rfl) ?_
    exact to_sp hs hk
  rw [if_neg h5] at hk ⊢
  by_cases h6 : b = 14
  · rw [if_pos h6] at hk ⊢
    refine nz_i ?_
    simp only [add0, Nat.zero_add]
    exact setPl_st { S.pl with second := true } hs (by simp) (fun A => by kernel_rfl) hk
  rw [if_neg h6] at hk ⊢
  by_cases h7 : b = 15
  · rw [if_pos h7] at hk ⊢
    refine nz_i ?_
    simp only [add0, Nat.zero_add]
    exact setPl_st { S.pl with second := false } hs (by simp) (fun A => by kernel_rfl) hk
  · rw [if_neg h7] at hk ⊢
    exact hk h hs
theorem does_sp (hs : Rep h0 h s S) (o : Ok S) (hk : ∀ h1, Rep h0 h1 s (doesV S b) → K h1) : vt_Screen_does (some ⟨s, 0, none⟩) b K h := by
  have hk0 := hk
  have x0 := o.c.p.x0
  have x1 := o.c.p.x1
  have w1 := o.d.w1
  unfold vt_Screen_does
  unfold doesV at hk
  by_cases h1 : b = 7
  · rw [if_pos h1] at hk ⊢
    refine nz_i ?_
    simp only [add0, Nat.zero_add]
    obtain ⟨A, oM, oO, oP, oT, oG, oK, oL, ho, hp⟩ := hs
    refine ldI0 ho rfl ?_
    refine st0 ho rfl fun h1 ho1 => ?_
    have ho1 := own_cs (c' := scrC (bell S) A) ho1 (by kernel_rfl)
    exact hk h1 ⟨A, oM, oO, oP, oT, oG, oK, oL, ho1, hp.1, hp.2, hp.3, hp.4, hp.5, hp.6, hp.7⟩
  rw [if_neg h1] at hk ⊢
  by_cases h2 : b = 8
  · rw [if_pos h2] at hk ⊢
    refine nz_i ?_
    simp only [add0, Nat.zero_add]
    refine hs.ldi (v := S.pl.x) (fun A => rfl) ?_
    refine hs.ldi (v := S.pl.y) (fun A => rfl) ?_
    rw [wrap64 (x := S.pl.x - 1) (by omega) (by omega)]
    exact to_sp hs hk
  rw [if_neg h2] at hk ⊢
  by_cases h3 : b = 9
  · rw [if_pos h3] at hk ⊢
    exact tab_sp hs o (by omega) hk
  rw [if_neg h3]
  by_cases h4 : b = 10
  · rw [if_pos h4]
    exact does_j0 hs o h1 h2 h3 (by simp [h4]) hk0
  rw [if_neg h4]
  by_cases h5 : b = 11
  · rw [if_pos h5]
    exact does_j0 hs o h1 h2 h3 (by simp [h5]) hk0
  · rw [if_neg h5]
    exact does_j0 hs o h1 h2 h3 (by simp [h4, h5]) hk0
theorem ground_j0 (hs : Rep h0 h s S) (o : Ok S) (b0 : 0 ≤ b) (b1 : b ≤ 255) (hk : ∀ h1, Rep h0 h1 s (ground1 S b) → K h1) : vt_Screen_ground_j0 K ⟨s, 0, none⟩ b h := by
  unfold vt_Screen_ground_j0
  unfold ground1 at hk
  by_cases h1 : b < 32
  · rw [if_pos h1] at hk ⊢
    exact does_sp hs o hk
  rw [if_neg h1] at hk ⊢
  by_cases h2 : b < 127
  · rw [if_pos h2] at hk ⊢
    rw [show IntKind.wrap .i32 b = b by rw [IntKind.wrap_i32]; omega]
    exact write_sp hs o hk
  rw [if_neg h2] at hk ⊢
  by_cases h3 : b = 127
  · rw [if_pos h3] at hk ⊢
    exact hk h hs
  rw [if_neg h3] at hk ⊢
  by_cases h4 : 194 ≤ b ∧ b ≤ 244
  case neg =>
    rw [if_neg h4] at hk
    rw [if_neg (by simpa using h4)]
    exact write_sp hs o hk
  rw [if_pos h4] at hk
  rw [if_pos (by simpa using h4)]
  simp only [add0, Nat.zero_add]
  obtain ⟨A, oM, oO, oP, oT, oG, oK, oL, ho, hp⟩ := hs
  refine st0 ho rfl fun h1 ho1 => ?_
  refine st0 ho1 rfl fun h2 ho2 => ?_
  refine st0 ho2 rfl fun h3 ho3 => ?_
  have ho3 := own_cs (c' := scrC { S with u0 := b, have_ := 1, want := 2 } A) ho3 (by kernel_rfl)
  by_cases h5 : 224 ≤ b
  · rw [if_pos h5]
    refine st0 ho3 rfl fun h4 ho4 => ?_
    have ho4 := own_cs (c' := scrC { S with u0 := b, have_ := 1, want := 3 } A) ho4 (by kernel_rfl)
    by_cases h6 : 240 ≤ b
    · rw [if_pos h6]
      refine st0 ho4 rfl fun h5 ho5 => hk h5 ?_
      have e : startV S b = { S with u0 := b, have_ := 1, want := 4 } := by
        unfold startV wantV
        rw [if_pos h6]
      rw [e]
      have ho5 := own_cs (c' := scrC { S with u0 := b, have_ := 1, want := 4 } A) ho5 (by kernel_rfl)
      exact ⟨A, oM, oO, oP, oT, oG, oK, oL, ho5, hp.1, hp.2, hp.3, hp.4, hp.5, hp.6, hp.7⟩
    · rw [if_neg h6]
      have e : startV S b = { S with u0 := b, have_ := 1, want := 3 } := by
        unfold startV wantV
        rw [if_neg h6, if_pos h5]
      refine hk h4 ?_
      rw [e]
      exact ⟨A, oM, oO, oP, oT, oG, oK, oL, ho4, hp.1, hp.2, hp.3, hp.4, hp.5, hp.6, hp.7⟩
  · rw [if_neg h5, if_neg (by omega)]
    have e : startV S b = { S with u0 := b, have_ := 1, want := 2 } := by
      unfold startV wantV
      rw [if_neg (by omega), if_neg h5]
    refine hk h3 ?_
    rw [e]
    exact ⟨A, oM, oO, oP, oT, oG, oK, oL, ho3, hp.1, hp.2, hp.3, hp.4, hp.5, hp.6, hp.7⟩
def U8 (S : Scr) : Prop := 0 ≤ S.u0 ∧ S.u0 ≤ 255
theorem goOn_sp (ht : Tabs h0.h) (hs : Rep h0 h s S) (o : Ok S) (u : U8 S) (b0 : 0 ≤ b) (b1 : b ≤ 255) (hh : 0 < S.have_) (hk : ∀ h1, Rep h0 h1 s (goOnV S b) → K h1) :
    ldI h .i64 ⟨s, 38, none⟩ fun x11 =>
    0 ≤ x11 ∧
    x11 < (4 : Int) ∧
    stN ((⟨s, 34, none⟩ : Addr).add (x11.toNat * 1)) [.int .u8 b] 0 h fun h17 =>
    ldI h17 .i64 ⟨s, 38, none⟩ fun x18 =>
    stN ⟨s, 38, none⟩ [.int .i64 (IntKind.wrap .i64 (x18 + 1))] 0 h17 fun h21 =>
    ldI h21 .i64 ⟨s, 38, none⟩ fun x22 =>
    ldI h21 .i64 ⟨s, 39, none⟩ fun x26 =>
    if x22 = x26 then
     stN ⟨s, 38, none⟩ [.int .i64 0] 0 h21 fun h31 =>
     ldI h31 .i64 ⟨s, 39, none⟩ fun x32 =>
     0 ≤ x32 ∧
     x32 ≤ (4 : Int) ∧
     unicode_utf8_DecodeRune (some ⟨s, 34, none⟩) x32.toNat 4 (fun x39 x40 h38 =>
      vt_Width x39 (fun x42 h41 =>
       if 0 ≤ x42 then
        vt_Screen_write (some ⟨s, 0, none⟩) x39 (fun  h44 =>
          K h44) h41
       else
         K h41) h38) h31
    else
    K h21 := by
  have hv := o.c.hv1 hh
  have hu := setU_f S S.have_ b
  refine hs.ldi (v := S.have_) (fun A => rfl) ⟨by omega, by omega, ?_⟩
  refine hs.setu (by omega) (by omega) fun h1 hs1 => ?_
  refine hs1.ldi (v := (setU S S.have_ b).have_) (fun A => rfl) ?_
  rw [hu.2.2.2.2.1, wrap64 (by omega) (by omega)]
  obtain ⟨A, oM, oO, oP, oT, oG, oK, oL, ho, hp⟩ := hs1
  refine st0 ho rfl fun h2 ho2 => ?_
  have ho2 := own_cs (c' := scrC (more S b) A) ho2 (by kernel_rfl)
  have hs2 : Rep h0 h2 s (more S b) := ⟨A, oM, oO, oP, oT, oG, oK, oL, ho2, hp.1, hp.2, hp.3, hp.4, hp.5, hp.6, hp.7⟩
  refine hs2.ldi (v := S.have_ + 1) (fun A => rfl) ?_
  refine hs2.ldi (v := (setU S S.have_ b).want) (fun A => rfl) ?_
  rw [hu.2.2.2.2.2]
  unfold goOnV at hk
  by_cases h3 : S.have_ + 1 = S.want
  case neg =>
    rw [if_neg h3] at hk ⊢
    exact hk h2 hs2
  rw [if_pos h3] at hk ⊢
  refine st0 ho2 rfl fun h4 ho4 => ?_
  have ho4 := own_cs (c' := scrC (done S b) A) ho4 (by kernel_rfl)
  have hs4 : Rep h0 h4 s (done S b) := ⟨A, oM, oO, oP, oT, oG, oK, oL, ho4, hp.1, hp.2, hp.3, hp.4, hp.5, hp.6, hp.7⟩
  refine hs4.ldi (v := (setU S S.have_ b).want) (fun A => rfl) ?_
  have e0 : (done S b).u0 = S.u0 := setU_0 (S := S) (i := S.have_) (b := b) (by omega)
  have ew : (done S b).want = S.want := hu.2.2.2.2.2
  refine ⟨by rw [hu.2.2.2.2.2]; omega, by rw [hu.2.2.2.2.2]; omega, ?_⟩
  refine decode_sp ht hs4 _ (by rw [hu.2.2.2.2.2]; omega) (by rw [e0]; exact u.1) (by rw [e0]; exact u.2) fun m h5 hs5 => ?_
  have er : decV (((setU S S.have_ b).want.toNat : Nat) : Int) (done S b).u0 (done S b).u1 (done S b).u2 (done S b).u3 = runeV (done S b) := by
    unfold runeV
    rw [show (done S b).want = (setU S S.have_ b).want from rfl, show (((setU S S.have_ b).want.toNat : Nat) : Int) = (setU S S.have_ b).want by rw [hu.2.2.2.2.2]; omega]
  rw [er]
  refine width_sp fun h6 he6 => ?_
  have hs6 := hs5.gap he6
  by_cases h7 : 0 ≤ widthV (runeV (done S b))
  · rw [if_pos h7] at hk ⊢
    exact write_sp hs6 (o.done b) hk
  · rw [if_neg h7] at hk ⊢
    exact hk h6 hs6
theorem ground_sp (ht : Tabs h0.h) (hs : Rep h0 h s S) (o : Ok S) (u : U8 S) (b0 : 0 ≤ b) (b1 : b ≤ 255) (hk : ∀ h1, Rep h0 h1 s (groundV S b) → K h1) : vt_Screen_ground (some ⟨s, 0, none⟩) b K h := by
  unfold vt_Screen_ground
  unfold groundV at hk
  refine nz_i ?_
  simp only [add0, Nat.zero_add]
  refine hs.ldi (v := S.have_) (fun A => rfl) ?_
  by_cases h1 : 0 < S.have_
  case neg =>
    rw [if_neg h1] at hk ⊢
    exact ground_j0 hs o b0 b1 hk
  rw [if_pos h1] at hk ⊢
  refine goes_sp hs ?_
  by_cases h2 : goesV S b = true
  · rw [if_pos h2] at hk ⊢
    have := goOn_sp (K := K) ht hs o u b0 b1 h1 hk
    simpa only [add0] using this
  · rw [if_neg h2] at hk ⊢
    exact broken_sp hs o fun h3 hs3 => ground_j0 hs3 o.broken b0 b1 hk
end
end Go.Proofs.YthjdnhhifjpidaaGreatDoor.M
set_option maxRecDepth 100000
namespace Go.Proofs.YthjdnhhifjpidaaGreatDoor.M
open Go Go.Hp

/-! ### Bytes, one by one -/
section
variable {h0 : Base} {h : Heap} {s : Nat} {S : Scr} {b : Int} {K : Heap → Prop}
theorem state_st (z : Int) (hs : Rep h0 h s S) (hk : ∀ h1, Rep h0 h1 s (setState S z) → K h1) : stN ⟨s, 31, none⟩ [.int .i64 z] 0 h K := by
  obtain ⟨A, oM, oO, oP, oT, oG, oK, oL, ho, hp⟩ := hs
  refine st0 ho rfl fun h1 ho1 => hk h1 ?_
  have ho1 := own_cs (c' := scrC (setState S z) A) ho1 (by kernel_rfl)
  exact ⟨A, oM, oO, oP, oT, oG, oK, oL, ho1, hp.1, hp.2, hp.3, hp.4, hp.5, hp.6, hp.7⟩
theorem not_iff (b : Bool) : (!b) = true ↔ b = false := by cases b <;> simp
theorem escape_sp (ht : Tabs h0.h) (hs : Rep h0 h s S) (o : Ok S) (u : U8 S) (b0 : 0 ≤ b) (b1 : b ≤ 255) (hk : ∀ h1, Rep h0 h1 s (escapeV S b) → K h1) : vt_Screen_escape (some ⟨s, 0, none⟩) b K h := by
  unfold vt_Screen_escape
  unfold escapeV at hk
  refine nz_i ?_
  simp only [add0, Nat.zero_add]
  refine hs.bytes fun a n c hb hc => ?_
  have hn := hb.1
  have en : decide ((n : Int) = 0) = decide (S.gathered.length = 0) := by
    rw [hn]
    by_cases h : S.gathered.length = 0
    · rw [decide_eq_true h, decide_eq_true (by omega)]
    · rw [decide_eq_false h, decide_eq_false (by omega)]
  rw [en]
  by_cases h1 : S.gathered.length = 0 ∧ b = 91
  · rw [if_pos h1] at hk
    rw [if_pos (by simpa using h1)]
    exact begin_sp hs hk
  rw [if_neg h1] at hk
  rw [if_neg (by simpa using h1)]
  by_cases h2 : S.gathered.length = 0 ∧ b = 93
  · rw [if_pos h2] at hk
    rw [if_pos (by simpa using h2)]
    exact begin_sp hs hk
  rw [if_neg h2] at hk
  rw [if_neg (by simpa using h2)]
  by_cases h3 : S.gathered.length = 0 ∧ (b = 80 ∨ b = 88 ∨ b = 94 ∨ b = 95)
  · rw [if_pos h3] at hk
    rw [if_pos (by simpa [or_assoc] using h3)]
    exact state_st 4 hs hk
  rw [if_neg h3] at hk
  rw [if_neg (by simpa [or_assoc] using h3)]
  by_cases h4 : b < 32
  · rw [if_pos h4] at hk ⊢
    exact does_sp hs o hk
  rw [if_neg h4] at hk ⊢
  by_cases h5 : b < 48
  · rw [if_pos h5] at hk ⊢
    exact gather_sp hs o.c.gath hk
  rw [if_neg h5] at hk ⊢
  by_cases h6 : b < 127
  · rw [if_pos h6] at hk ⊢
    refine state_st 0 hs fun h7 hs7 => ?_
    refine hs7.ldb (v := S.over) (fun A => rfl) ?_
    by_cases h8 : S.over = false
    · rw [if_pos h8] at hk
      rw [if_pos ((not_iff _).2 h8)]
      exact escaped_sp hs7 (o.setState 0) hk
    · rw [if_neg h8] at hk
      rw [if_neg (fun h => h8 ((not_iff _).1 h))]
      exact hk h7 hs7
  rw [if_neg h6] at hk ⊢
  by_cases h7 : 128 ≤ b
  · rw [if_pos h7] at hk ⊢
    refine state_st 0 hs fun h8 hs8 => ?_
    exact ground_sp ht hs8 (o.setState 0) u b0 b1 hk
  · rw [if_neg h7] at hk ⊢
    exact hk h hs
theorem sequence_sp (ht : Tabs h0.h) (hs : Rep h0 h s S) (o : Ok S) (u : U8 S) (b0 : 0 ≤ b) (b1 : b ≤ 255) (hk : ∀ h1, Rep h0 h1 s (sequenceV S b) → K h1) : vt_Screen_sequence (some ⟨s, 0, none⟩) b K h := by
  unfold vt_Screen_sequence
  unfold sequenceV at hk
  by_cases h4 : b < 32
  · rw [if_pos h4] at hk ⊢
    exact does_sp hs o hk
  rw [if_neg h4] at hk ⊢
  by_cases h5 : b < 64
  · rw [if_pos h5] at hk ⊢
    exact gather_sp hs o.c.gath hk
  rw [if_neg h5] at hk ⊢
  by_cases h6 : b < 127
  · rw [if_pos h6] at hk ⊢
    refine nz_i ?_
    simp only [add0, Nat.zero_add]
    refine state_st 0 hs fun h7 hs7 => ?_
    refine hs7.ldb (v := S.over) (fun A => rfl) ?_
    by_cases h8 : S.over = false
    · rw [if_pos h8] at hk
      rw [if_pos ((not_iff _).2 h8)]
      exact controlled_sp ht hs7 (o.setState 0) hk
    · rw [if_neg h8] at hk
      rw [if_neg (fun h => h8 ((not_iff _).1 h))]
      exact hk h7 hs7
  rw [if_neg h6] at hk ⊢
  by_cases h7 : 128 ≤ b
  · rw [if_pos h7] at hk ⊢
    refine nz_i ?_
    simp only [add0, Nat.zero_add]
    refine state_st 0 hs fun h8 hs8 => ?_
    exact ground_sp ht hs8 (o.setState 0) u b0 b1 hk
  · rw [if_neg h7] at hk ⊢
    exact hk h hs
theorem title_sp (hs : Rep h0 h s S) (o : Ok S) (hk : ∀ h1, Rep h0 h1 s (titleV S b) → K h1) :
  (if b = 7 then
   vt_Screen_named (some ⟨s, 0, none⟩) (fun  h45 =>
    stN ⟨s, 31, none⟩ [.int .i64 0] 0 h45 fun h46 =>
     K  h46) h
  else
  if ((decide (32 ≤ b)) && (!decide (b = 127))) = true then
   ldL h ⟨s, 32, none⟩ fun x55 x55n x55c =>
   if (x55n : Int) < 130 then
    ldL h ⟨s, 32, none⟩ fun x59 x59n x59c =>
    gap h fun h63 =>
    appH h63 5 1 [.int .u8 0] x59 x59n x59c [.int .u8 b] 1 fun s66 s66c h65 =>
    stN ⟨s, 32, none⟩ [.slice s66 (x59n + 1) s66c] 0 h65 fun h67 =>
    K  h67
   else
   K  h
  else
  K  h) := by
  unfold titleV at hk
  by_cases h1 : b = 7
  · rw [if_pos h1] at hk ⊢
    exact named_sp hs fun h2 hs2 => state_st 0 hs2 hk
  rw [if_neg h1] at hk ⊢
  by_cases h2 : 32 ≤ b ∧ b ≠ 127
  case neg =>
    rw [if_neg (fun h => h2 ⟨h.1, h.2.1⟩)] at hk
    rw [if_neg (by simpa using h2)]
    exact hk h hs
  rw [if_pos (by simpa using h2)]
  obtain ⟨A, oM, oO, oP, oT, oG, oK, oL, ho, hp⟩ := hs
  have hn := hp.5.1
  have hg := o.c.gath
  refine ldL0 ho rfl ?_
  by_cases h3 : (S.gathered.length : Int) < 130
  case neg =>
    rw [if_neg (fun h => h3 h.2.2)] at hk
    rw [if_neg (by omega)]
    exact hk h ⟨A, oM, oO, oP, oT, oG, oK, oL, ho, hp⟩
  rw [if_pos ⟨h2.1, h2.2, h3⟩] at hk
  rw [if_pos (by omega)]
  refine ldL0 ho rfl ?_
  refine gap_o ho fun h1 ho1 => ?_
  have hoA : Own h0 h1 (((s, scrC S A, 80) :: (oM ++ (oO ++ (oP ++ oT)))) ++ (oG ++ (oK ++ oL))) := by simpa using ho1
  refine SlO.app (f := bf) (sz := 1) (js := [b]) bf_len rfl hp.5 hoA (by simp only [List.length_singleton]; omega) (by simp only [List.length_singleton]; omega) fun a' c' o' h' ho2 hs2 => ?_
  have ho2 : Own h0 h' ((s, scrC S A, 80) :: (oM ++ (oO ++ (oP ++ (oT ++ (o' ++ (oK ++ oL))))))) := by simpa using ho2
  refine st0 ho2 rfl fun h3 ho3 => ?_
  have ho3 := own_cs (c' := scrC { S with gathered := S.gathered ++ [b] } { A with g := a', gn := A.gn + 1, gc := c' }) ho3 (by kernel_rfl)
  exact hk _ ⟨{ A with g := a', gn := A.gn + 1, gc := c' }, oM, oO, oP, oT, o', oK, oL, ho3, hp.1, hp.2, hp.3, hp.4, hs2, hp.6, hp.7⟩
def byte1 (S : Scr) (b : Int) : Scr := if S.state = 0 then groundV S b else if S.state = 1 then escapeV S b else if S.state = 2 then sequenceV S b else if S.state = 3 then titleV S b else S
theorem byte_j1 (ht : Tabs h0.h) (hs : Rep h0 h s S) (o : Ok S) (u : U8 S) (b0 : 0 ≤ b) (b1 : b ≤ 255) (hk : ∀ h1, Rep h0 h1 s (byte1 S b) → K h1) : vt_Screen_byte_j1 K (some ⟨s, 0, none⟩) b h := by
  unfold vt_Screen_byte_j1
  unfold byte1 at hk
  refine nz_i ?_
  simp only [add0, Nat.zero_add]
  refine hs.ldi (v := S.state) (fun A => rfl) ?_
  by_cases h1 : S.state = 0
  · rw [if_pos h1] at hk ⊢
    exact ground_sp ht hs o u b0 b1 hk
  rw [if_neg h1] at hk ⊢
  by_cases h2 : S.state = 1
  · rw [if_pos h2] at hk ⊢
    exact escape_sp ht hs o u b0 b1 hk
  rw [if_neg h2] at hk ⊢
  by_cases h3 : S.state = 2
  · rw [if_pos h3] at hk ⊢
    exact sequence_sp ht hs o u b0 b1 hk
  rw [if_neg h3] at hk ⊢
  by_cases h4 : S.state = 3
  · rw [if_pos h4] at hk ⊢
    exact title_sp hs o hk
  · rw [if_neg h4] at hk ⊢
    exact hk h hs
theorem byte_j0 {q : Bool} (ht : Tabs h0.h) (hs : Rep h0 h s S) (o : Ok S) (u : U8 S) (b0 : 0 ≤ b) (b1 : b ≤ 255) (hq : q = decide (b = 24 ∨ b = 26)) (hk : ∀ h1, Rep h0 h1 s (byteV S b) → K h1) :
    vt_Screen_byte_j0 (fun z28 z29 h30 => vt_Screen_byte_j1 K z28 z29 h30) K (some ⟨s, 0, none⟩) b b q h := by
  unfold vt_Screen_byte_j0
  unfold byteV at hk
  subst hq
  by_cases h1 : b = 24 ∨ b = 26
  · rw [if_pos h1] at hk
    rw [if_pos (by simpa using h1)]
    refine broken_sp hs o fun h2 hs2 => nz_i ?_
    simp only [add0, Nat.zero_add]
    exact state_st 0 hs2 hk
  rw [if_neg h1] at hk
  rw [if_neg (by simpa using h1)]
  by_cases h2 : b = 27
  · rw [if_pos h2] at hk ⊢
    unfold escV at hk
    refine broken_sp hs o fun h3 hs3 => nz_i ?_
    simp only [add0, Nat.zero_add]
    refine hs3.ldi (v := (brokenV S).state) (fun A => rfl) ?_
    by_cases h4 : (brokenV S).state = 3
    · rw [if_pos h4] at hk ⊢
      exact named_sp hs3 fun h5 hs5 => begin_sp hs5 hk
    · rw [if_neg h4] at hk ⊢
      exact begin_sp hs3 hk
  rw [if_neg h2] at hk ⊢
  exact byte_j1 ht hs o u b0 b1 hk
theorem byte_sp (ht : Tabs h0.h) (hs : Rep h0 h s S) (o : Ok S) (u : U8 S) (b0 : 0 ≤ b) (b1 : b ≤ 255) (hk : ∀ h1, Rep h0 h1 s (byteV S b) → K h1) : vt_Screen_byte (some ⟨s, 0, none⟩) b K h := by
  unfold vt_Screen_byte
  by_cases h1 : b = 24
  · rw [if_pos h1]
    exact byte_j0 ht hs o u b0 b1 (by simp [h1]) hk
  · rw [if_neg h1]
    exact byte_j0 ht hs o u b0 b1 (by simp [h1]) hk
end

/-! ### Feed -/
theorem byteAt_rng (t : ByteArray) (i : Int) : 0 ≤ byteAt t i ∧ byteAt t i ≤ 255 := by
  unfold byteAt
  have := (t.data.getD i.toNat 0).toNat_lt
  omega
theorem intsOf_len (t : ByteArray) : (intsOf t).length = t.size := by
  unfold intsOf
  rw [List.length_map]
  rfl
theorem intsOf_at (t : ByteArray) (i : Nat) (hi : i < t.size) : (intsOf t)[i]? = some (byteAt t i) := by
  unfold intsOf byteAt
  have hs : i < t.data.size := hi
  rw [List.getElem?_map, Array.getElem?_toList, Array.getElem?_eq_getElem hs]
  show some _ = some ((((t.data.getD (i : Int).toNat 0).toNat : Nat) : Int))
  rw [show (i : Int).toNat = i by omega, Array.getD_eq_getD_getElem?, Array.getElem?_eq_getElem hs]
  rfl
theorem U8.byte {S : Scr} (u : U8 S) (b : Int) : U8 (byteV S b) := (f3_byte S b).u u
theorem feed_l0 {h0 : Base} {s : Nat} {t : ByteArray} {K : Heap → Prop} (ht : Tabs h0.h) (hz : t.size < 9223372036854775807) :
    ∀ (q i : Nat) (S : Scr) (h : Heap), Rep h0 h s S → Ok S → U8 S → t.size - i = q → i ≤ t.size → (∀ h1, Rep h0 h1 s (bytesL ((intsOf t).drop i) S) → K h1) → vt_Screen_Feed_l0 K (q + 1) (some ⟨s, 0, none⟩) t (t.size : Int) i h := by
  intro q
  induction q with
  | zero =>
    intro i S h hs o u hq hi hk
    unfold vt_Screen_Feed_l0
    rw [if_neg (by omega)]
    rw [List.drop_of_length_le (by rw [intsOf_len]; omega)] at hk
    exact hk h hs
  | succ q ih =>
    intro i S h hs o u hq hi hk
    unfold vt_Screen_Feed_l0
    rw [if_pos (by omega)]
    refine ⟨by omega, by omega, ?_⟩
    have hlt : i < (intsOf t).length := by rw [intsOf_len]; omega
    have e : (intsOf t)[i] = byteAt t i := by
      have := intsOf_at t i (by omega)
      rw [List.getElem?_eq_getElem hlt] at this
      exact Option.some.inj this
    rw [List.drop_eq_getElem_cons hlt, e] at hk
    have hb := byteAt_rng t i
    refine byte_sp ht hs o u hb.1 hb.2 fun h1 hs1 => ?_
    rw [wrap64 (by omega) (by omega), show (i : Int) + 1 = ((i + 1 : Nat) : Int) by omega]
    exact ih (i + 1) _ h1 hs1 (o.byte _) (u.byte _) (by omega) (by omega) hk
theorem Feed_sp {h0 : Base} {h : Heap} {s : Nat} {S : Scr} {t : ByteArray} {K : Heap → Prop} (ht : Tabs h0.h) (hs : Rep h0 h s S) (o : Ok S) (u : U8 S) (hz : t.size < 9223372036854775807) (hk : ∀ h1, Rep h0 h1 s (strV S t) → K h1) : vt_Screen_Feed (some ⟨s, 0, none⟩) t K h := by
  unfold vt_Screen_Feed
  exact ⟨t.size + 1, feed_l0 ht hz t.size 0 S h hs o u (by omega) (by omega) hk⟩
theorem U8.str {S : Scr} (u : U8 S) (t : ByteArray) : U8 (strV S t) := (f3_bytesL _ S).u u
theorem Ok.str {S : Scr} (o : Ok S) (t : ByteArray) : Ok (strV S t) := Ok.bytesL _ S o
end Go.Proofs.YthjdnhhifjpidaaGreatDoor.M
