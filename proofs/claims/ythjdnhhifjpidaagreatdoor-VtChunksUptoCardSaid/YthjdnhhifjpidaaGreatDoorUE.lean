import Derived.Test.YthjdnhhifjpidaaGreatDoorUD
import Derived.Laws.Cover4
set_option linter.unusedVariables false
set_option linter.unusedSimpArgs false
set_option maxRecDepth 100000
namespace Go.Proofs.YthjdnhhifjpidaaGreatDoor.M
open Go Go.Hp

/-! ### What holds of all glyphs, whatever is done -/
structure Good (P : Gl → Prop) : Prop where
  blank : ∀ f b m, P (blankG f b m)
  enc : ∀ c n f b m, P (Utf8.encode c, n, f, b, m)
  nul : ∀ f b m, P (⟨#[]⟩, 0, f, b, m)
  e : P eG
def AllR (P : Gl → Prop) (r : List Gl) : Prop := r.length ≤ 1000 ∧ ∀ g ∈ r, P g
def AllS (P : Gl → Prop) (R : List (List Gl)) : Prop := ∀ r ∈ R, AllR P r
section
variable {P : Gl → Prop}
theorem allR_rep {g : Gl} {n : Nat} (hn : n ≤ 1000) (hg : P g) : AllR P (List.replicate n g) := ⟨by rw [List.length_replicate]; exact hn, fun x hx => by rw [(List.mem_replicate.1 hx).2]; exact hg⟩
theorem allR_set {r : List Gl} {i : Nat} {g : Gl} (hr : AllR P r) (hg : P g) : AllR P (r.set i g) := ⟨by rw [List.length_set]; exact hr.1, fun x hx => by
  rcases List.mem_or_eq_of_mem_set hx with h | h
  · exact hr.2 x h
  · rw [h]; exact hg⟩
theorem allR_nil : AllR P [] := ⟨Nat.zero_le _, fun g hg => absurd hg (by simp)⟩
theorem allS_getD {R : List (List Gl)} (hR : AllS P R) (i : Nat) : AllR P (R.getD i []) := by
  rw [List.getD_eq_getElem?_getD]
  cases h : R[i]? with
  | none => exact allR_nil
  | some g => exact hR g (List.mem_of_getElem? h)
theorem allS_set {R : List (List Gl)} (hR : AllS P R) (i : Nat) {g : List Gl} (hg : AllR P g) : AllS P (R.set i g) := fun x hx => by
  rcases List.mem_or_eq_of_mem_set hx with h | h
  · exact hR x h
  · rw [h]; exact hg
theorem allS_sheet (G : Good P) (w h f b m : Int) (hw : w ≤ 1000) : AllS P (sheetV w h f b m) := fun r hr => by
  have : r = List.replicate w.toNat (blankG f b m) := (List.mem_replicate.1 (show r ∈ List.replicate h.toNat _ from hr)).2
  rw [this]
  exact allR_rep (by omega) (G.blank f b m)
theorem allR_cut (G : Good P) {r : List Gl} (i : Int) (hr : AllR P r) : AllR P (cutV r i) := by
  unfold cutV
  split
  · exact allR_set (allR_set hr (G.blank _ _ _)) (G.blank _ _ _)
  · exact hr
theorem allR_fill {g : Gl} (hg : P g) : ∀ (f : Nat) (i to : Int) (r : List Gl), AllR P r → AllR P (fillV r g f i to)
  | 0, _, _, r, hr => hr
  | f + 1, i, to, r, hr => by
    unfold fillV
    split
    · exact allR_fill hg f _ _ _ (allR_set hr hg)
    · exact hr
theorem allR_copy {r : List Gl} (hr : AllR P r) (d s m : Nat) (hl : d + m ≤ r.length) : AllR P (copyV r d s m) := by
  refine ⟨?_, fun x hx => ?_⟩
  · have := hr.1
    unfold copyV
    simp only [List.length_append, List.length_take, List.length_drop]
    omega
  · unfold copyV at hx
    rcases List.mem_append.1 hx with h | h
    · exact hr.2 x (List.mem_of_mem_take h)
    · rcases List.mem_append.1 h with h | h
      · exact hr.2 x (List.mem_of_mem_drop (List.mem_of_mem_take h))
      · exact hr.2 x (List.mem_of_mem_drop h)
theorem allR_erase (G : Good P) {r : List Gl} (i to : Int) (hr : AllR P r) {g : Gl} (hg : P g) : AllR P (eraseV r i to g) := allR_fill hg _ _ _ _ (allR_cut G _ (allR_cut G _ hr))
theorem allR_put (G : Good P) {r : List Gl} (x n c f b m : Int) (hr : AllR P r) : AllR P (putR r x n (Utf8.encode c) f b m) := by
  unfold putR
  split
  · exact allR_set (allR_set (allR_cut G _ (allR_cut G _ hr)) (G.enc _ _ _ _ _)) (G.nul _ _ _)
  · exact allR_set (allR_cut G _ (allR_cut G _ hr)) (G.enc _ _ _ _ _)
end
structure Gs (P : Gl → Prop) (S : Scr) : Prop where
  G : Good P
  w1 : S.w ≤ 1000
  m : AllS P S.main
  o : AllS P S.other
  p : AllS P S.past
theorem ite_gs {P : Gl → Prop} {c : Prop} [Decidable c] {a b : Scr} (ha : Gs P a) (hb : Gs P b) : Gs P (if c then a else b) := by
  by_cases h : c
  · rw [if_pos h]; exact ha
  · rw [if_neg h]; exact hb
section
variable {P : Gl → Prop} {S : Scr}
theorem Gs.setPl (f : Gs P S) (p : Pl) : Gs P (S.setPl p) := ⟨f.G, f.w1, f.m, f.o, f.p⟩
theorem Gs.to (f : Gs P S) (x y : Int) : Gs P (toV S x y) := ⟨f.G, f.w1, f.m, f.o, f.p⟩
theorem Gs.home (f : Gs P S) (x y : Int) : Gs P (homeV S x y) := f.to _ _
theorem Gs.rowsUp (f : Gs P S) (n : Int) : Gs P (rowsUpV S n) := f.to _ _
theorem Gs.rowsDown (f : Gs P S) (n : Int) : Gs P (rowsDownV S n) := f.to _ _
theorem Gs.tab (f : Gs P S) (n : Int) : Gs P (tabV S n) := f.to _ _
theorem Gs.back (f : Gs P S) (n : Int) : Gs P (backV S n) := f.to _ _
theorem Gs.setX (f : Gs P S) (x : Int) : Gs P (M.setX S x) := f.setPl _
theorem Gs.setY (f : Gs P S) (x : Int) : Gs P (M.setY S x) := f.setPl _
theorem Gs.unwait (f : Gs P S) : Gs P (M.unwait S) := f.setPl _
theorem Gs.setSh (f : Gs P S) {g : List (List Gl)} (hg : AllS P g) : Gs P (S.setSh g) := ite_gs ⟨f.G, f.w1, f.m, hg, f.p⟩ ⟨f.G, f.w1, hg, f.o, f.p⟩
theorem Gs.sh (f : Gs P S) : AllS P S.sh := by
  unfold Scr.sh
  split
  · exact f.o
  · exact f.m
theorem Gs.keep (f : Gs P S) {g : List Gl} (hg : AllR P g) : Gs P (keepV S g) := by
  refine ⟨f.G, f.w1, f.m, f.o, fun r hr => ?_⟩
  have hr : r ∈ (if S.most < ((S.past.length + 1 : Nat) : Int) then (S.past ++ [g]).drop (((S.past.length + 1 : Nat) : Int) - S.most).toNat else S.past ++ [g]) := hr
  have : r ∈ S.past ++ [g] := by
    split at hr
    · exact List.mem_of_mem_drop hr
    · exact hr
  rcases List.mem_append.1 this with h | h
  · exact f.p r h
  · rw [List.mem_singleton.1 h]; exact hg
theorem Gs.empty (f : Gs P S) : AllR P (emptyRow S) := allR_rep (by have := f.w1; omega) (f.G.blank 0 S.pl.back 0)
theorem Gs.keepOne (f : Gs P S) (t : Int) (k : Bool) : Gs P (M.keepOne S t k) := ite_gs (ite_gs f (f.keep (allS_getD f.sh 0))) f
theorem Gs.upL (t b : Int) (k : Bool) : ∀ (n : Nat) (S : Scr), Gs P S → Gs P (M.upL t b k n S)
  | 0, S, f => f
  | n + 1, S, f => Gs.upL t b k n _ ((f.keepOne t k).setSh fun r hr => by
      have f1 := f.keepOne t k
      rcases mem_shiftUp hr with h | h
      · exact f1.sh r h
      · rw [h]; exact f1.empty)
theorem Gs.up (f : Gs P S) (t b n : Int) (k : Bool) : Gs P (upV S t b n k) := Gs.upL t b k _ S f
theorem Gs.downL (t b : Int) : ∀ (n : Nat) (S : Scr), Gs P S → Gs P (M.downL t b n S)
  | 0, S, f => f
  | n + 1, S, f => Gs.downL t b n _ (f.setSh fun r hr => by
      rcases mem_shiftDown hr with h | h
      · exact f.sh r h
      · rw [h]; exact f.empty)
theorem Gs.down (f : Gs P S) (t b n : Int) : Gs P (downV S t b n) := Gs.downL t b _ S f
theorem Gs.feed (f : Gs P S) : Gs P (feedV S) := ite_gs (f.up _ _ _ _).unwait (ite_gs (f.setY _).unwait f.unwait)
theorem Gs.setKept (f : Gs P S) (p) : Gs P (S.setKept p) := ite_gs ⟨f.G, f.w1, f.m, f.o, f.p⟩ ⟨f.G, f.w1, f.m, f.o, f.p⟩
theorem Gs.keepCursor (f : Gs P S) : Gs P (keepCursorV S) := f.setKept _
theorem Gs.backCursor (f : Gs P S) : Gs P (backCursorV S) := f.setPl _
theorem Gs.soft (f : Gs P S) : Gs P (softV S) := (Gs.setKept (S := soft0 S) ⟨f.G, f.w1, f.m, f.o, f.p⟩ none).unwait
theorem Gs.swap (f : Gs P S) (on : Bool) : Gs P (swapV S on) :=
  ite_gs f (ite_gs (Gs.unwait (S := { S with alt := true, other := sheetV S.w S.h 0 S.pl.back 0, okept := none }) ⟨f.G, f.w1, f.m, allS_sheet f.G _ _ _ _ _ f.w1, f.p⟩) (Gs.unwait (S := { S with alt := false, other := [], okept := none }) ⟨f.G, f.w1, f.m, fun r hr => absurd hr (by simp), f.p⟩))
theorem Gs.setRow (f : Gs P S) {g : List Gl} (hg : AllR P g) : Gs P (S.setRow g) := f.setSh (allS_set f.sh _ hg)
theorem Gs.rowAt (f : Gs P S) : AllR P S.rowAt := allS_getD f.sh _
theorem Gs.open (f : Gs P S) (o : Ok S) {n : Int} (hn : 0 ≤ n) : Gs P (openV S n) := by
  have hl := o.rowAt
  have x0 := o.c.p.x0
  have x1 := o.c.p.x1
  have m1 := imin_le2 n (S.w - S.pl.x)
  have m0 : 0 ≤ imin n (S.w - S.pl.x) := by unfold imin; split <;> omega
  exact f.setRow (allR_fill (f.G.blank 0 S.pl.back 0) _ _ _ _ (allR_copy (allR_cut f.G _ (allR_cut f.G _ f.rowAt)) _ _ _ (by rw [cutV_len, cutV_len]; omega)))
theorem Gs.shut (f : Gs P S) (o : Ok S) {n : Int} (hn : 0 ≤ n) : Gs P (shutV S n) := by
  have hl := o.rowAt
  have x0 := o.c.p.x0
  have x1 := o.c.p.x1
  have m1 := imin_le2 n (S.w - S.pl.x)
  have m0 : 0 ≤ imin n (S.w - S.pl.x) := by unfold imin; split <;> omega
  exact f.setRow (allR_fill (f.G.blank 0 S.pl.back 0) _ _ _ _ (allR_copy (allR_cut f.G _ (allR_cut f.G _ f.rowAt)) _ _ _ (by rw [cutV_len, cutV_len]; omega)))
theorem Gs.lines1 (f : Gs P S) (b n : Int) : Gs P (lines1V S b n) := ite_gs f (ite_gs f (ite_gs ((f.down _ _ _).to _ _) ((f.up _ _ _ _).to _ _)))
theorem Gs.places (f : Gs P S) (o : Ok S) (b : Int) {n : Int} (hn : 0 ≤ n) : Gs P (placesV S b n) := ite_gs (f.open o hn).unwait (ite_gs (f.shut o hn).unwait (ite_gs (f.setRow (allR_erase f.G _ _ f.rowAt (f.G.blank 0 S.pl.back 0))).unwait f.unwait))
theorem Gs.ahead (f : Gs P S) (n : Int) : Gs P (M.ahead S n) := ite_gs (f.setPl _) (f.setPl _)
theorem Gs.put (f : Gs P S) (c n : Int) : Gs P (putV S c n) := (f.setRow (allR_put f.G _ _ _ _ _ _ f.rowAt)).ahead n
theorem Gs.setLast (f : Gs P S) (c : Int) : Gs P (M.setLast S c) := ⟨f.G, f.w1, f.m, f.o, f.p⟩
theorem Gs.write3 (f : Gs P S) (o : Ok S) (c : Int) {n : Int} (t : Int) (hn : 0 ≤ n) : Gs P (M.write3 S c n t) := ite_gs (((f.setLast t).open (o.setLast t) hn).put c n) ((f.setLast t).put c n)
theorem Gs.write2 (f : Gs P S) (o : Ok S) (c : Int) {n : Int} (t : Int) (hn : 0 ≤ n) : Gs P (M.write2 S c n t) := ite_gs (ite_gs (ite_gs f (ite_gs f ((f.setX 0).feed.write3 o.zeroX.feed c t hn))) (f.write3 o c t hn)) (f.write3 o c t hn)
theorem Gs.write1 (f : Gs P S) (o : Ok S) (c : Int) {n : Int} (t : Int) (hn : 0 ≤ n) : Gs P (M.write1 S c n t) := ite_gs (ite_gs ((f.setX 0).feed.write2 o.zeroX.feed c t hn) (f.write2 o c t hn)) (f.write2 o c t hn)
theorem Gs.write (f : Gs P S) (o : Ok S) (c : Int) : Gs P (writeV S c) := by
  unfold writeV
  by_cases h : widthV c < 1
  · rw [if_pos h]; exact f
  rw [if_neg h]
  exact ite_gs (f.write1 o _ _ (by omega)) (f.write1 o _ _ (by omega))
theorem Gs.eraseAt (f : Gs P S) (y : Nat) (i to : Int) {g : Gl} (hg : P g) : Gs P (M.eraseAt S y i to g) := f.setSh (allS_set f.sh _ (allR_erase f.G _ _ (allS_getD f.sh y) hg))
theorem Gs.clearsL (n : Int) {g : Gl} (hg : P g) : ∀ (q : Nat) (i : Int) (S : Scr), Gs P S → Gs P (M.clearsL n g q i S)
  | 0, _, S, f => f
  | q + 1, i, S, f => ite_gs (Gs.clearsL n hg q _ _ (f.eraseAt _ _ _ hg)) (ite_gs (Gs.clearsL n hg q _ _ (f.eraseAt _ _ _ hg)) (Gs.clearsL n hg q _ _ f))
theorem Gs.clears2 (f : Gs P S) (b n : Int) {g : Gl} (hg : P g) : Gs P (M.clears2 S b n g) := ite_gs f (Gs.clearsL n hg _ _ S f)
theorem Gs.clears1 (f : Gs P S) (b n : Int) {g : Gl} (hg : P g) : Gs P (M.clears1 S b n g) := ite_gs ((f.eraseAt _ _ _ hg).clears2 b n hg) (f.clears2 b n hg)
theorem Gs.clears0 (f : Gs P S) (b n : Int) {g : Gl} (hg : P g) : Gs P (M.clears0 S b n g) := ite_gs ((f.eraseAt _ _ _ hg).clears1 b n hg) (f.clears1 b n hg)
theorem Gs.noPast (f : Gs P S) : Gs P (M.noPast S) := ⟨f.G, f.w1, f.m, f.o, fun r hr => absurd hr (by simp [M.noPast])⟩
theorem Gs.clears (f : Gs P S) (b n : Int) : Gs P (clearsV S b n) := ite_gs f.noPast.unwait (ite_gs f (f.unwait.clears0 b n (f.G.blank 0 S.pl.back 0)))
theorem Gs.private (f : Gs P S) (n : Int) (on : Bool) : Gs P (privateV S n on) := by
  unfold privateV
  refine ite_gs ⟨f.G, f.w1, f.m, f.o, f.p⟩ (ite_gs ⟨f.G, f.w1, f.m, f.o, f.p⟩ (ite_gs ((f.setPl _).home 1 1) (ite_gs ⟨f.G, f.w1, f.m, f.o, f.p⟩ (ite_gs ⟨f.G, f.w1, f.m, f.o, f.p⟩ (ite_gs (f.swap on) (ite_gs (ite_gs f.keepCursor f.backCursor) (ite_gs (ite_gs (ite_gs (f.keepCursor.swap true) f) (ite_gs (f.swap false).backCursor f)) f)))))))
theorem Gs.privL (on : Bool) : ∀ (l : List Int) (S : Scr), Gs P S → Gs P (M.privL on l S)
  | [], S, f => f
  | m :: l, S, f => Gs.privL on l _ (f.private m on)
theorem Gs.pensL (l : List Int) : ∀ (q i : Nat) (S : Scr), Gs P S → Gs P (M.pensL l q i S)
  | 0, _, S, f => f
  | q + 1, i, S, f => by
    unfold M.pensL
    refine ite_gs ?_ f
    iterate 11 (refine ite_gs (Gs.pensL l q _ _ (f.setPl _)) ?_)
    refine ite_gs ?_ (Gs.pensL l q _ _ f)
    refine ite_gs f ?_
    refine ite_gs (Gs.pensL l q _ _ (f.setPl _)) ?_
    exact ite_gs (Gs.pensL l q _ _ (f.setPl _)) (Gs.pensL l q _ _ f)
theorem Gs.pens (f : Gs P S) (l : List Int) : Gs P (pensV S l) := ite_gs (Gs.pensL _ _ _ S f) (Gs.pensL _ _ _ S f)
theorem Gs.sends (f : Gs P S) (t : ByteArray) : Gs P (sendsV S t) := ite_gs ⟨f.G, f.w1, f.m, f.o, f.p⟩ f
theorem Gs.repL : ∀ (q : Nat) (S : Scr), Gs P S → Ok S → Gs P (M.repL q S)
  | 0, S, f, _ => f
  | q + 1, S, f, o => ite_gs f (Gs.repL q _ (f.write o _) (o.write _))
theorem Gs.modesL (on : Bool) : ∀ (l : List Int) (S : Scr), Gs P S → Gs P (M.modesL on l S)
  | [], S, f => f
  | m :: l, S, f => Gs.modesL on l _ (ite_gs ⟨f.G, f.w1, f.m, f.o, f.p⟩ (ite_gs ⟨f.G, f.w1, f.m, f.o, f.p⟩ f))
theorem Gs.tells (f : Gs P S) (a y : Int) : Gs P (tellsV S a y) := ite_gs (f.sends _) (ite_gs (f.sends _) f)
theorem Gs.region (f : Gs P S) (n e : Int) : Gs P (M.region S n e) := ite_gs (Gs.home (S := { S with top := n - 1, bottom := e - 1 }) ⟨f.G, f.w1, f.m, f.o, f.p⟩ 1 1) f
theorem Gs.others (f : Gs P S) (o : Ok S) (b : Int) (l : List Int) (n : Int) : Gs P (othersV S b l n) := by
  unfold othersV
  refine ite_gs (Gs.repL _ S f o) (ite_gs (ite_gs ⟨f.G, f.w1, f.m, f.o, f.p⟩ (ite_gs ⟨f.G, f.w1, f.m, f.o, f.p⟩ f)) ?_)
  unfold others1
  exact ite_gs (Gs.modesL _ l S f) (ite_gs (f.pens l) (ite_gs (f.tells _ _) (ite_gs (ite_gs (f.sends _) f) (ite_gs (f.region _ _) (ite_gs f.keepCursor.unwait (ite_gs f.backCursor f))))))
theorem Gs.plain (f : Gs P S) (o : Ok S) (b : Int) (l : List Int) : Gs P (plainV S b l) := by
  unfold plainV
  have hn := imax1 (atV l 0 1)
  generalize imax 1 (atV l 0 1) = n at *
  unfold plain1
  refine ite_gs (f.rowsUp _) (ite_gs (f.rowsDown _) (ite_gs (f.to _ _) (ite_gs (f.to _ _) (ite_gs ((f.rowsDown _).to _ _) (ite_gs ((f.rowsUp _).to _ _) ?_)))))
  unfold plain2
  refine ite_gs (f.to _ _) (ite_gs (f.home _ _) (ite_gs (f.home _ _) (ite_gs (f.tab _) (ite_gs (f.back _) ?_))))
  unfold plain4
  exact ite_gs (f.clears _ _) (ite_gs (f.lines1 _ _) (ite_gs (f.places o _ (by omega)) (ite_gs (f.up _ _ _ _).unwait (ite_gs (f.down _ _ _).unwait (f.others o _ _ _)))))
theorem Gs.controlled (f : Gs P S) (o : Ok S) (b : Int) : Gs P (controlledV S b) := ite_gs (ite_gs (Gs.privL _ _ S f) (ite_gs f.soft (ite_gs (f.plain o _ _) f))) f
end
section
variable {P : Gl → Prop} {S : Scr}
theorem Gs.reset (f : Gs P S) : Gs P (resetV S) := ⟨f.G, f.w1, allS_sheet f.G _ _ _ _ _ f.w1, fun r hr => absurd (show r ∈ [] from hr) (by simp), f.p⟩
theorem Gs.allEL : ∀ (q i : Nat) (S : Scr), Gs P S → Gs P (M.allEL q i S)
  | 0, _, S, f => f
  | q + 1, i, S, f => Gs.allEL q (i + 1) _ (f.setSh (allS_set f.sh _ (allR_rep (allS_getD f.sh i).1 f.G.e)))
theorem Gs.escaped (f : Gs P S) (b : Int) : Gs P (escapedV S b) := by
  unfold escapedV
  refine ite_gs ?_ (ite_gs f ?_)
  · unfold escaped1
    have fa : Gs P (M.allE S) := Gs.allEL _ _ S f
    exact ite_gs (f.setPl _) (ite_gs (f.setPl _) (ite_gs (Gs.to (S := whole (M.allE S)) ⟨fa.G, fa.w1, fa.m, fa.o, fa.p⟩ 0 0) f))
  · unfold escaped0
    exact ite_gs f.keepCursor (ite_gs f.backCursor (ite_gs (f.setX 0).feed (ite_gs f.feed (ite_gs (ite_gs (f.down _ _ _).unwait (f.to _ _)) (ite_gs ⟨f.G, f.w1, f.m, f.o, f.p⟩ (ite_gs f.reset f))))))
theorem Gs.setState (f : Gs P S) (z : Int) : Gs P (M.setState S z) := ⟨f.G, f.w1, f.m, f.o, f.p⟩
theorem Gs.begin (f : Gs P S) (z : Int) : Gs P (beginV S z) := ⟨f.G, f.w1, f.m, f.o, f.p⟩
theorem Gs.gather (f : Gs P S) (b : Int) : Gs P (gatherV S b) := ite_gs ⟨f.G, f.w1, f.m, f.o, f.p⟩ ⟨f.G, f.w1, f.m, f.o, f.p⟩
theorem Gs.titled (f : Gs P S) : Gs P (M.titled S) := ⟨f.G, f.w1, f.m, f.o, f.p⟩
theorem Gs.named (f : Gs P S) : Gs P (namedV S) := ite_gs (ite_gs (ite_gs f.titled f) (ite_gs (ite_gs f.titled f) f)) f
theorem Gs.noHave (f : Gs P S) : Gs P (M.noHave S) := ⟨f.G, f.w1, f.m, f.o, f.p⟩
theorem Gs.broken (f : Gs P S) (o : Ok S) : Gs P (brokenV S) := ite_gs (f.noHave.write o.noHave _) f
theorem Gs.does (f : Gs P S) (b : Int) : Gs P (doesV S b) := by
  unfold doesV
  exact ite_gs ⟨f.G, f.w1, f.m, f.o, f.p⟩ (ite_gs (f.to _ _) (ite_gs (f.tab _) (ite_gs (ite_gs (f.setX 0).feed f.feed) (ite_gs (f.to _ _) (ite_gs (f.setPl _) (ite_gs (f.setPl _) f))))))
theorem Gs.setU (f : Gs P S) (i b : Int) : Gs P (M.setU S i b) := ite_gs ⟨f.G, f.w1, f.m, f.o, f.p⟩ (ite_gs ⟨f.G, f.w1, f.m, f.o, f.p⟩ (ite_gs ⟨f.G, f.w1, f.m, f.o, f.p⟩ ⟨f.G, f.w1, f.m, f.o, f.p⟩))
theorem Gs.goOn (f : Gs P S) (o : Ok S) (b : Int) : Gs P (goOnV S b) := by
  have f1 := f.setU S.have_ b
  have fd : Gs P (M.done S b) := ⟨f1.G, f1.w1, f1.m, f1.o, f1.p⟩
  exact ite_gs (ite_gs (fd.write (o.done b) _) fd) ⟨f1.G, f1.w1, f1.m, f1.o, f1.p⟩
theorem Gs.ground1 (f : Gs P S) (o : Ok S) (b : Int) : Gs P (M.ground1 S b) := ite_gs (f.does b) (ite_gs (f.write o b) (ite_gs f (ite_gs ⟨f.G, f.w1, f.m, f.o, f.p⟩ (f.write o _))))
theorem Gs.ground (f : Gs P S) (o : Ok S) (b : Int) : Gs P (groundV S b) := ite_gs (ite_gs (f.goOn o b) ((f.broken o).ground1 o.broken b)) (f.ground1 o b)
theorem Gs.escape (f : Gs P S) (o : Ok S) (b : Int) : Gs P (escapeV S b) := ite_gs (f.begin 2) (ite_gs (f.begin 3) (ite_gs (f.setState 4) (ite_gs (f.does b) (ite_gs (f.gather b) (ite_gs (ite_gs ((f.setState 0).escaped b) (f.setState 0)) (ite_gs ((f.setState 0).ground (o.setState 0) b) f))))))
theorem Gs.sequence (f : Gs P S) (o : Ok S) (b : Int) : Gs P (sequenceV S b) := ite_gs (f.does b) (ite_gs (f.gather b) (ite_gs (ite_gs ((f.setState 0).controlled (o.setState 0) b) (f.setState 0)) (ite_gs ((f.setState 0).ground (o.setState 0) b) f)))
theorem Gs.title (f : Gs P S) (b : Int) : Gs P (titleV S b) := ite_gs (f.named.setState 0) (ite_gs ⟨f.G, f.w1, f.m, f.o, f.p⟩ f)
theorem Gs.esc (f : Gs P S) (o : Ok S) : Gs P (escV S) := (ite_gs (f.broken o).named (f.broken o)).begin 1
theorem Gs.byte (f : Gs P S) (o : Ok S) (b : Int) : Gs P (byteV S b) := ite_gs ((f.broken o).setState 0) (ite_gs (f.esc o) (ite_gs (f.ground o b) (ite_gs (f.escape o b) (ite_gs (f.sequence o b) (ite_gs (f.title b) f)))))
theorem Gs.bytesL : ∀ (l : List Int) (S : Scr), Gs P S → Ok S → Gs P (M.bytesL l S)
  | [], S, f, _ => f
  | b :: l, S, f, o => Gs.bytesL l _ (f.byte o b) (o.byte b)
theorem Gs.str (f : Gs P S) (o : Ok S) (t : ByteArray) : Gs P (strV S t) := Gs.bytesL _ S f o
end
/-- A glyph's text is short. -/
def Short (g : Gl) : Prop := g.1.size ≤ 4
theorem short_good : Good Short :=
  ⟨fun f b m => show (⟨#[32]⟩ : ByteArray).size ≤ 4 by decide, fun c n f b m => encode_size_le c, fun f b m => show (⟨#[]⟩ : ByteArray).size ≤ 4 by decide, show (⟨#[69]⟩ : ByteArray).size ≤ 4 by decide⟩
end Go.Proofs.YthjdnhhifjpidaaGreatDoor.M
set_option maxRecDepth 100000
namespace Go.Proofs.YthjdnhhifjpidaaGreatDoor.M
open Go Go.Hp

/-! ### A screen among other blocks -/
section
variable {h0 : Base} {h : Heap} {s : Nat} {S : Scr} {X Y : Blks} {b : Nat} {c : Array Value} {t : TypeId}
theorem RepX.own (hs : RepX h0 h s S X) : ∃ L, Own h0 h (L ++ X) ∧ ∀ X' h', Own h0 h' (L ++ X') → RepX h0 h' s S X' := by
  obtain ⟨A, oM, oO, oP, oT, oG, oK, oL, ho, hp⟩ := hs
  exact ⟨(s, scrC S A, 80) :: (oM ++ (oO ++ (oP ++ (oT ++ (oG ++ (oK ++ oL)))))), by simpa using ho, fun X' h' ho' => ⟨A, oM, oO, oP, oT, oG, oK, oL, by simpa using ho', hp⟩⟩
theorem RepX.newX {K : Nat → Heap → Prop} (hs : RepX h0 h s S X) (hk : ∀ b h1, RepX h0 h1 s S ((b, c, t) :: X) → K b h1) : newB h c t K := by
  obtain ⟨L, ho, hb⟩ := hs.own
  exact newB_o ho fun b h1 ho1 => hk b h1 (hb _ _ (ho1.perm (by exact pc)))
theorem RepX.stX {off : Nat} {vs : List Value} {K : Heap → Prop} (hs : RepX h0 h s S (X ++ (b, c, t) :: Y)) (hle : Nat.ble (off + vs.length) c.size = true) (hk : ∀ h1, RepX h0 h1 s S (X ++ (b, setL c off vs, t) :: Y) → K h1) : stN ⟨b, off, none⟩ vs 0 h K := by
  obtain ⟨L, ho, hb⟩ := hs.own
  have ho : Own h0 h ((L ++ X) ++ (b, c, t) :: Y) := by simpa using ho
  exact stN_blk (ho.mid (x := (b, c, t))).1 (Nat.le_of_ble_eq_true hle) fun h1 hp => hk h1 (hb _ _ (by simpa using Own.putAt ho hp))
theorem RepX.blkX (hs : RepX h0 h s S X) (hm : (b, c, t) ∈ X) : Blk h b c t := by
  obtain ⟨L, ho, hb⟩ := hs.own
  exact (ho.blk (b, c, t) (List.mem_append.2 (.inr hm))).1
theorem RepX.subX (hs : RepX h0 h s S X) (hp : Y.Sublist X) : RepX h0 h s S Y := by
  obtain ⟨L, ho, hb⟩ := hs.own
  exact hb _ _ (ho.sub (hp.append_left _))
theorem RepX.cell {v : Value} {off : Nat} (hs : RepX h0 h s S X) (e : ∀ A, (scrC S A)[off]? = some v) : cellH h ⟨s, off, none⟩ = some v := by
  obtain ⟨A, oM, oO, oP, oT, oG, oK, oL, ho, hp⟩ := hs
  exact ho.get0.cell off (e A)
theorem RepX.lds {off : Nat} {v : ByteArray} {K : ByteArray → Prop} (hs : RepX h0 h s S X) (e : ∀ A, (scrC S A)[off]? = some (.string v)) (hk : K v) : ldS h ⟨s, off, none⟩ K := ⟨v, hs.cell e, hk⟩
theorem Rep.toX (hs : Rep h0 h s S) : RepX h0 h s S [] := by
  obtain ⟨A, oM, oO, oP, oT, oG, oK, oL, ho, hp⟩ := hs
  exact ⟨A, oM, oO, oP, oT, oG, oK, oL, by simpa using ho, hp⟩
theorem RepX.fix (hs : RepX h0 h s S X) : Rep ⟨h0.h, X ++ h0.X⟩ h s S := by
  obtain ⟨A, oM, oO, oP, oT, oG, oK, oL, ho, hp⟩ := hs
  refine ⟨A, oM, oO, oP, oT, oG, oK, oL, Own.fix ?_, hp⟩
  simpa using ho
theorem Rep.unfix (hs : Rep ⟨h0.h, X ++ h0.X⟩ h s S) : RepX h0 h s S X := by
  obtain ⟨A, oM, oO, oP, oT, oG, oK, oL, ho, hp⟩ := hs
  refine ⟨A, oM, oO, oP, oT, oG, oK, oL, ?_, hp⟩
  simpa using Own.unfix ho
theorem RepX.unfixX (hs : RepX ⟨h0.h, X ++ h0.X⟩ h s S Y) : RepX h0 h s S (Y ++ X) := by
  obtain ⟨A, oM, oO, oP, oT, oG, oK, oL, ho, hp⟩ := hs
  refine ⟨A, oM, oO, oP, oT, oG, oK, oL, ?_, hp⟩
  simpa using Own.unfix ho
theorem RepX.rest (hs : RepX h0 h s S X) : Own h0 h X := by
  obtain ⟨L, ho, hb⟩ := hs.own
  exact ho.sub (List.sublist_append_right _ _)

/-! ### A new screen -/
def zeroS (w h most : Int) : Scr := ⟨w, h, most, [], none, [], none, false, [], pl0, 0, 0, [], false, false, false, false, false, false, ⟨#[]⟩, 0, ⟨#[]⟩, 0, [], false, 0, 0, 0, 0, 0, 0, 0⟩
def newV (w h most : Int) : Scr := resetV (zeroS w h most)
theorem ok_new {w h most : Int} (w0 : 1 ≤ w) (w1 : w ≤ 1000) (hh0 : 1 ≤ h) (hh1 : h ≤ 1000) (m0 : 0 ≤ most) (m1 : most ≤ 2000) : Ok (newV w h most) := ok_reset (S := zeroS w h most) w0 w1 hh0 hh1 m0 m1 m0 (show (⟨#[]⟩ : ByteArray).size ≤ 4096 by decide)
theorem u8_new (w h most : Int) : U8 (newV w h most) := ⟨show (0 : Int) ≤ 0 by decide, show (0 : Int) ≤ 255 by decide⟩
def badV (w h most : Int) : Option Int := if 1 ≤ w ∧ w ≤ 1000 ∧ 1 ≤ h ∧ h ≤ 1000 then if 0 ≤ most ∧ most ≤ 2000 then none else some 1 else some 41
theorem New_sp {w hh most : Int} {K : Option Addr → Int → Heap → Prop} (ho : Own h0 h X) (hb : ∀ e h1, badV w hh most = some e → Own h0 h1 X → K none e h1)
    (hk : 1 ≤ w → w ≤ 1000 → 1 ≤ hh → hh ≤ 1000 → 0 ≤ most → most ≤ 2000 → ∀ b h1, RepX h0 h1 b (newV w hh most) X → K (some ⟨b, 0, none⟩) 0 h1) : vt_New w hh most K h := by
  have j1 : 1 ≤ w → w ≤ 1000 → 1 ≤ hh → hh ≤ 1000 → 0 ≤ most → most ≤ 2000 → ∀ h, Own h0 h X → vt_New_j1 (fun z46 z47 h48 => K (some ⟨z46, 0, none⟩) z47 h48) w hh most h := by
    intro w0 w1 hh0 hh1 m0 m1 h ho
    unfold vt_New_j1
    refine newB_o ho fun b h1 ho1 => ?_
    have ho1 := own_cs (c' := scrC (zeroS w hh most) ⟨none, 0, 0, none, none, 0, 0, none, none, 0, 0, none, 0, 0, none, 0, 0⟩) ho1 (by kernel_rfl)
    have hs1 : Rep ⟨h0.h, X ++ h0.X⟩ h1 b (zeroS w hh most) :=
      ⟨⟨none, 0, 0, none, none, 0, 0, none, none, 0, 0, none, 0, 0, none, 0, 0⟩, [], [], [], [], [], [], [], Own.fix (l := [(b, scrC (zeroS w hh most) ⟨none, 0, 0, none, none, 0, 0, none, none, 0, 0, none, 0, 0, none, 0, 0⟩, 80)]) ho1,
        ⟨[], [], [], rfl, SlO.nil, RowsB.nil⟩, ⟨[], [], [], rfl, SlO.nil, RowsB.nil⟩, ⟨[], [], [], rfl, SlO.nil, RowsB.nil⟩, SlO.nil, SlO.nil, ⟨rfl, rfl⟩, ⟨rfl, rfl⟩⟩
    exact reset_sp hs1 w0 w1 hh0 hh1 fun h2 hs2 => hk w0 w1 hh0 hh1 m0 m1 b h2 hs2.unfix
  have j0 : ∀ (q : Bool) (h : Heap), Own h0 h X → q = (!(vt_fits w && vt_fits hh)) → vt_New_j0 (fun z29 z30 z31 h32 => vt_New_j1 (fun z46 z47 h48 => K (some ⟨z46, 0, none⟩) z47 h48) z29 z30 z31 h32) (fun z52 z53 h54 => K z52 z53 h54) w hh most q h := by
    intro q h ho hq
    unfold vt_New_j0
    unfold badV at hb
    subst hq
    unfold vt_fits
    by_cases h1 : 1 ≤ w ∧ w ≤ 1000 ∧ 1 ≤ hh ∧ hh ≤ 1000
    case neg =>
      rw [if_pos (by simp; omega)]
      exact hb 41 h (if_neg h1) ho
    rw [if_neg (by simp; omega)]
    simp only [if_pos h1] at hb
    by_cases h2 : most < 0
    · rw [if_pos h2]
      exact hb 1 h (if_neg (by omega)) ho
    rw [if_neg h2]
    by_cases h3 : 2000 < most
    · rw [if_pos h3]
      exact hb 1 h (if_neg (by omega)) ho
    rw [if_neg h3]
    exact j1 h1.1 h1.2.1 h1.2.2.1 h1.2.2.2 (by omega) (by omega) h ho
  unfold vt_New
  by_cases h1 : vt_fits w = true
  · rw [if_neg (by rw [h1]; decide)]
    refine gap_o ho fun h2 ho2 => j0 _ h2 ho2 (by rw [h1]; simp)
  · rw [if_pos (by simpa using h1)]
    refine gap_o ho fun h2 ho2 => j0 _ h2 ho2 (by simp [h1])
end
end Go.Proofs.YthjdnhhifjpidaaGreatDoor.M
set_option maxRecDepth 100000
namespace Go.Proofs.YthjdnhhifjpidaaGreatDoor.M
open Go Go.Hp

/-! ### What is shown, as a picture -/
theorem appG_o {h0 : Base} {h : Heap} {a : Option Addr} {n c : Nat} {ks js : List Gl} {o pre l : Blks} {a2 : Option Addr} {n2 : Nat} {K : Option Addr → Nat → Heap → Prop} (hs : SlO gf 5 52 a n c ks o) (ho : Own h0 h (pre ++ (o ++ l)))
    (hn2 : n2 = js.length) (hsrc : srcAt h a2 (js.flatMap gf)) (hb : n + n2 ≤ 2000000000000)
    (k : ∀ a' c' o' h', Own h0 h' (pre ++ (o' ++ l)) → SlO gf 5 52 a' (n + n2) c' (ks ++ js) o' → K a' c' h') : appS h 52 48 [.string (⟨#[]⟩ : ByteArray), .int .i64 0, .int .i64 0, .int .i64 0, .int .i64 0] a n c a2 n2 K := by
  subst hn2
  refine ⟨js.flatMap gf, flat_len gf gf_len js, ?_, hsrc, ?_⟩
  · simp only [List.all_flatMap]
    simp [oneV]
  · exact SlO.app (z := [.string (⟨#[]⟩ : ByteArray), .int .i64 0, .int .i64 0, .int .i64 0, .int .i64 0]) gf_len rfl hs ho (by omega) (by omega) k
theorem RepX.ownA {h0 : Base} {h : Heap} {s : Nat} {S : Scr} {X : Blks} (hs : RepX h0 h s S X) : ∃ A L, Own h0 h ((s, scrC S A, 80) :: (L ++ X)) ∧ ∀ X' h', Own h0 h' ((s, scrC S A, 80) :: (L ++ X')) → RepX h0 h' s S X' := by
  obtain ⟨A, oM, oO, oP, oT, oG, oK, oL, ho, hp⟩ := hs
  exact ⟨A, oM ++ (oO ++ (oP ++ (oT ++ (oG ++ (oK ++ oL))))), by simpa using ho, fun X' h' ho' => ⟨A, oM, oO, oP, oT, oG, oK, oL, by simpa using ho', hp⟩⟩
abbrev picC (w h : Int) (a : Option Addr) (n c : Nat) (x y : Int) (hid : Bool) (t : ByteArray) : Array Value := #[.int .i64 w, .int .i64 h, .slice a n c, .int .i64 x, .int .i64 y, .bool hid, .string t]
theorem pic_l0 {h0 : Base} {s b2 b30 : Nat} {S : Scr} {Z : Array Value} {w hh x y : Int} {hid : Bool} {t : ByteArray} {p1 : Option Addr} {nr cr : Nat} {K0 : Nat → Nat → Heap → Prop} (o : Ok S) (hnr : (nr : Int) = S.h) :
    ∀ (q i : Nat) (h : Heap) (a : Option Addr) (n c : Nat) (ks : List Gl) (oc : Blks), RepX h0 h s S ((b30, picC w hh a n c x y hid t, 36) :: (b2, Z, 36) :: oc) → cellH h (shA S s) = some (.slice p1 nr cr) → SlO gf 5 52 a n c ks oc → n ≤ i * 1000 → i + q = nr →
      (∀ h' a' n' c' oc', RepX h0 h' s S ((b30, picC w hh a' n' c' x y hid t, 36) :: (b2, Z, 36) :: oc') → SlO gf 5 52 a' n' c' (ks ++ (S.sh.drop i).flatten) oc' → K0 b2 b30 h') →
      vt_Screen_Picture_l0 K0 (q + 1) b2 b30 p1 nr cr (nr : Int) i h := by
  have hh1 := o.d.h1
  have hw1 := o.d.w1
  have hsh := o.d.sh
  intro q
  induction q with
  | zero =>
    intro i h a n c ks oc hs hc hsl hni hi hk
    unfold vt_Screen_Picture_l0
    rw [if_neg (by omega)]
    rw [List.drop_of_length_le (by omega)] at hk
    exact hk h a n c oc hs (by simpa using hsl)
  | succ q ih =>
    intro i h a n c ks oc hs hc hsl hni hi hk
    unfold vt_Screen_Picture_l0
    rw [if_pos (by omega)]
    have hg := o.getAt (y := i) (by omega)
    obtain ⟨p, a', n', c', ob, pre, l, hp, hn2, hd, hrow, ho, hback⟩ := hs.rowc i (by omega) hc
    subst hp
    have hl := hrow.1
    have hte : ((i : Int)).toNat = i := by omega
    refine nz_i ⟨by omega, by omega, ⟨_, _, _, by rw [hte]; exact hd, ?_⟩⟩
    have hb := hs.blkX (b := b30) (c := picC w hh a n c x y hid t) (t := 36) (by simp)
    refine ⟨_, _, _, hb.cell 2 rfl, ?_⟩
    have hsrc := hrow.srcAt ho
    obtain ⟨A, L, hoL, hbL⟩ := hs.ownA
    have hcA := hc
    have hoL1 : Own h0 h (((s, scrC S A, 80) :: (L ++ [(b30, picC w hh a n c x y hid t, 36), (b2, Z, 36)])) ++ (oc ++ [])) := by simpa using hoL
    refine appG_o hsl hoL1 hl hsrc (by omega) fun a2 c2 o2 h2 ho2 hs2 => ?_
    have ho2 : Own h0 h2 (((s, scrC S A, 80) :: L) ++ (b30, picC w hh a n c x y hid t, 36) :: ((b2, Z, 36) :: o2)) := by simpa using ho2
    refine stN_blk (ho2.mid (x := (b30, picC w hh a n c x y hid t, 36))).1 (show 2 + 0 + 1 ≤ 7 by decide) fun h3 hp3 => ?_
    have ho3 : Own h0 h3 (((s, scrC S A, 80) :: L) ++ (b30, picC w hh a2 (n + n') c2 x y hid t, 36) :: ((b2, Z, 36) :: o2)) := Own.putAt ho2 hp3
    have ho3 : Own h0 h3 ((s, scrC S A, 80) :: (L ++ ((b30, picC w hh a2 (n + n') c2 x y hid t, 36) :: (b2, Z, 36) :: o2))) := by simpa using ho3
    have hs3 := hbL _ _ ho3
    rw [wrap64 (by omega) (by omega), show (i : Int) + 1 = ((i + 1 : Nat) : Int) by omega]
    have hc3 : cellH h3 (shA S s) = some (.slice (some p) nr cr) := by
      unfold shA at hcA ⊢
      split
      · rename_i ha; rw [if_pos ha] at hcA; exact ho3.get0.cell 5 (cell_inv hoL.get0 hcA)
      · rename_i ha; rw [if_neg ha] at hcA; exact ho3.get0.cell 3 (cell_inv hoL.get0 hcA)
    have hd1 : S.sh.drop i = S.sh.getD i [] :: S.sh.drop (i + 1) := by
      rw [List.drop_eq_getElem_cons (by omega), List.getD_eq_getElem?_getD, List.getElem?_eq_getElem (by omega)]
      rfl
    refine ih (i + 1) h3 a2 (n + n') c2 (ks ++ S.sh.getD i []) o2 hs3 hc3 hs2 (by omega) (by omega) fun h' a' n' c' oc' g1 g2 => hk h' a' n' c' oc' g1 ?_
    rw [hd1, List.flatten_cons, ← List.append_assoc]
    exact g2
theorem Picture_sp {h0 : Base} {h : Heap} {s : Nat} {S : Scr} {K : Int → Int → Option Addr → Nat → Nat → Int → Int → Bool → ByteArray → Heap → Prop} (hs : Rep h0 h s S) (o : Ok S)
    (hk : ∀ a n c oc h1, RepX h0 h1 s S oc → SlO gf 5 52 a n c S.sh.flatten oc → K S.w S.h a n c S.pl.x S.pl.y S.hidden S.title h1) : vt_Screen_Picture (some ⟨s, 0, none⟩) K h := by
  have hsh := o.d.sh
  have hh0 := o.d.h0
  have hh1 := o.d.h1
  unfold vt_Screen_Picture
  refine hs.toX.newX fun b2 h1 hs1 => nz_i ?_
  simp only [add0, Nat.zero_add]
  refine hs1.ldi (v := S.w) (fun A => rfl) ?_
  refine hs1.ldi (v := S.h) (fun A => rfl) ?_
  refine hs1.ldi (v := S.pl.x) (fun A => rfl) ?_
  refine hs1.ldi (v := S.pl.y) (fun A => rfl) ?_
  refine hs1.ldb (v := S.hidden) (fun A => rfl) ?_
  refine hs1.lds (v := S.title) (fun A => rfl) ?_
  refine hs1.newX fun b30 h2 hs2 => ?_
  refine ⟨⟨hs2.cell (fun A => rfl), hs2.cell (fun A => rfl), hs2.cell (fun A => rfl), hs2.cell (fun A => rfl), hs2.cell (fun A => rfl), hs2.cell (fun A => rfl)⟩, ?_⟩
  refine RepX.stX (X := []) hs2 rfl fun h3 hs3 => ?_
  have hs3 : RepX h0 h3 s S ((b30, picC S.w S.h none 0 0 S.pl.x S.pl.y S.hidden S.title, 36) :: (b2, picC 0 0 none 0 0 0 0 false ⟨#[]⟩, 36) :: []) := hs3
  obtain ⟨ra, rn, rc, hcell⟩ := hs3.rep.shcell
  have hnr : (rn : Int) = S.h := by
    obtain ⟨A, a', n', c', ks, oh, bs, l, ho, hc', h1, h2, h3⟩ := hs3.focus
    rw [hcell] at hc'
    obtain ⟨rfl, rfl, rfl⟩ : ra = a' ∧ rn = n' ∧ rc = c' := by simpa using hc'
    have := h1.1
    have := h2.1
    omega
  have fin : ∀ h' a' n' c' oc', RepX h0 h' s S ((b30, picC S.w S.h a' n' c' S.pl.x S.pl.y S.hidden S.title, 36) :: (b2, picC 0 0 none 0 0 0 0 false ⟨#[]⟩, 36) :: oc') → SlO gf 5 52 a' n' c' ([] ++ (S.sh.drop 0).flatten) oc' →
     ldI h' .i64 ⟨b30, 0, none⟩ fun x74 =>
     ldI h' .i64 ⟨b30, 1, none⟩ fun x76 =>
     ldL h' ⟨b30, 2, none⟩ fun x78 x78n x78c =>
     ldI h' .i64 ⟨b30, 3, none⟩ fun x80 =>
     ldI h' .i64 ⟨b30, 4, none⟩ fun x82 =>
     ldB h' ⟨b30, 5, none⟩ fun x84 =>
     ldS h' ⟨b30, 6, none⟩ fun x86 =>
     stN ⟨b2, 0, none⟩ [.int .i64 x74, .int .i64 x76, .slice x78 x78n x78c, .int .i64 x80, .int .i64 x82, .bool x84, .string x86] 0 h' fun h95 =>
     ldI h95 .i64 ⟨b2, 0, none⟩ fun x96 =>
     ldI h95 .i64 ⟨b2, 1, none⟩ fun x98 =>
     ldL h95 ⟨b2, 2, none⟩ fun x100 x100n x100c =>
     ldI h95 .i64 ⟨b2, 3, none⟩ fun x102 =>
     ldI h95 .i64 ⟨b2, 4, none⟩ fun x104 =>
     ldB h95 ⟨b2, 5, none⟩ fun x106 =>
     ldS h95 ⟨b2, 6, none⟩ fun x108 =>
        K x96 x98 x100 x100n x100c x102 x104 x106 x108 h95 := by
    intro h' a' n' c' oc' g1 g2
    have hb := g1.blkX (b := b30) (c := picC S.w S.h a' n' c' S.pl.x S.pl.y S.hidden S.title) (t := 36) (by simp)
    refine ldI_b hb rfl ?_
    refine ldI_b hb rfl ?_
    refine ⟨_, _, _, hb.cell 2 rfl, ?_⟩
    refine ldI_b hb rfl ?_
    refine ldI_b hb rfl ?_
    refine ldB_b hb rfl ?_
    refine ldS_b hb rfl ?_
    refine RepX.stX (X := [_]) g1 rfl fun h4 hs4 => ?_
    have hs4 : RepX h0 h4 s S ((b30, picC S.w S.h a' n' c' S.pl.x S.pl.y S.hidden S.title, 36) :: (b2, picC S.w S.h a' n' c' S.pl.x S.pl.y S.hidden S.title, 36) :: oc') := hs4
    have hb := hs4.blkX (b := b2) (c := picC S.w S.h a' n' c' S.pl.x S.pl.y S.hidden S.title) (t := 36) (by simp)
    refine ldI_b hb rfl ?_
    refine ldI_b hb rfl ?_
    refine ⟨_, _, _, hb.cell 2 rfl, ?_⟩
    refine ldI_b hb rfl ?_
    refine ldI_b hb rfl ?_
    refine ldB_b hb rfl ?_
    refine ldS_b hb rfl ?_
    exact hk a' n' c' oc' h4 (hs4.subX (by simp)) g2
  have rest : ∀ q : Addr, shA S s = q → nz (some q) fun p42 =>
  ldL h3 p42 fun x43 x43n x43c =>
  ∃ k118, vt_Screen_Picture_l0
   (fun z71 z72 h73 =>
     ldI h73 .i64 ⟨z72, 0, none⟩ fun x74 =>
     ldI h73 .i64 ⟨z72, 1, none⟩ fun x76 =>
     ldL h73 ⟨z72, 2, none⟩ fun x78 x78n x78c =>
     ldI h73 .i64 ⟨z72, 3, none⟩ fun x80 =>
     ldI h73 .i64 ⟨z72, 4, none⟩ fun x82 =>
     ldB h73 ⟨z72, 5, none⟩ fun x84 =>
     ldS h73 ⟨z72, 6, none⟩ fun x86 =>
     stN ⟨z71, 0, none⟩ [.int .i64 x74, .int .i64 x76, .slice x78 x78n x78c, .int .i64 x80, .int .i64 x82, .bool x84, .string x86] 0 h73 fun h95 =>
     ldI h95 .i64 ⟨z71, 0, none⟩ fun x96 =>
     ldI h95 .i64 ⟨z71, 1, none⟩ fun x98 =>
     ldL h95 ⟨z71, 2, none⟩ fun x100 x100n x100c =>
     ldI h95 .i64 ⟨z71, 3, none⟩ fun x102 =>
     ldI h95 .i64 ⟨z71, 4, none⟩ fun x104 =>
     ldB h95 ⟨z71, 5, none⟩ fun x106 =>
     ldS h95 ⟨z71, 6, none⟩ fun x108 =>
        K x96 x98 x100 x100n x100c x102 x104 x106 x108 h95) k118 b2 b30 x43 x43n x43c (x43n : Int) 0 h3 := by
    intro q hq
    refine nz_i ⟨_, _, _, (by rw [← hq]; exact hcell), ⟨rn + 1, ?_⟩⟩
    exact pic_l0 o hnr rn 0 h3 none 0 0 [] [] hs3 hcell SlO.nil (by omega) (by omega) fun h' a' n' c' oc' g1 g2 => fin h' a' n' c' oc' g1 g2
  refine shown_sp hs3.rep (fun ha => ?_) (fun ha => ?_)
  · exact rest _ (by unfold shA; rw [if_pos ha])
  · exact rest _ (by unfold shA; rw [if_neg (by rw [ha]; decide)])
end Go.Proofs.YthjdnhhifjpidaaGreatDoor.M
set_option maxRecDepth 100000
namespace Go.Proofs.YthjdnhhifjpidaaGreatDoor.M
open Go Go.Hp

/-! ### The document's screen is made: memory grows -/
theorem rrow_l0 {h0 : Base} {w f b m : Int} {b5 : Nat} {X : Blks} {K0 : Option Addr → Nat → Nat → Heap → Prop} (w1 : w ≤ 1000) :
    ∀ (q : Nat) (i : Nat) (h : Heap) (a : Option Addr) (n c : Nat) (ks : List Gl) (o : Blks), Own h0 h ([(b5, #[.int .i64 f, .int .i64 b, .int .i64 m], 50)] ++ (o ++ X)) → SlO gf 5 52 a n c ks o → n = i → (w - i).toNat = q → 
      (∀ a' n' c' o' h1, Own h0 h1 (o' ++ X) → K0 a' n' c' h1) → ref19_row_l0 K0 (q + 1) w b5 a n c i h := by
  intro q
  induction q with
  | zero =>
    intro i h a n c ks o ho hs hn hq hk
    unfold ref19_row_l0
    rw [if_neg (by omega)]
    exact hk a n c o h (Own.tail ho)
  | succ q ih =>
    intro i h a n c ks o ho hs hn hq hk
    unfold ref19_row_l0
    rw [if_pos (by omega)]
    have ho' : Own h0 h ((b5, #[.int .i64 f, .int .i64 b, .int .i64 m], 50) :: (o ++ X)) := ho
    refine ldI0 ho' rfl ?_
    refine ldI0 ho' rfl ?_
    refine ldI0 ho' rfl ?_
    refine gap_o ho fun h1 ho1 => ?_
    refine SlO.app (f := gf) (sz := 5) (js := [ref19_blank f b m]) gf_len rfl hs ho1 (by simp only [List.length_singleton]; omega) (by simp only [List.length_singleton]; omega) fun a' c' o' h' ho2 hs2 => ?_
    rw [wrap64 (by omega) (by omega), show (i : Int) + 1 = ((i + 1 : Nat) : Int) by omega]
    exact ih (i + 1) h' a' (n + 1) c' _ o' ho2 hs2 (by omega) (by omega) hk
theorem rrow_sp {h0 : Base} {h : Heap} {w f b m : Int} {X : Blks} {K : Option Addr → Nat → Nat → Heap → Prop} (ho : Own h0 h X) (w1 : w ≤ 1000) (hk : ∀ a n c o h1, Own h0 h1 (o ++ X) → K a n c h1) : ref19_row w f b m K h := by
  unfold ref19_row
  refine newB_o ho fun b5 h1 ho1 => ⟨(w - 0).toNat + 1, ?_⟩
  exact rrow_l0 w1 (w - 0).toNat 0 h1 none 0 0 [] [] ho1 SlO.nil rfl rfl hk
theorem rrows_l0 {h0 : Base} {w hh f b m : Int} {b6 : Nat} {X : Blks} {K0 : Option Addr → Nat → Nat → Heap → Prop} (w1 : w ≤ 1000) (h1' : hh ≤ 1000) :
    ∀ (q : Nat) (i : Nat) (h : Heap) (a : Option Addr) (n c : Nat) (ks) (o : Blks), Own h0 h ([(b6, #[.int .i64 f, .int .i64 b, .int .i64 m], 50)] ++ (o ++ X)) → SlO rf 1 34 a n c ks o → n = i → (hh - i).toNat = q →
      (∀ a' n' c' h1, Own h0 h1 X → K0 a' n' c' h1) → ref19_rows_l0 K0 (q + 1) w hh b6 a n c i h := by
  intro q
  induction q with
  | zero =>
    intro i h a n c ks o ho hs hn hq hk
    unfold ref19_rows_l0
    rw [if_neg (by omega)]
    exact hk a n c h ((Own.tail ho).sub (List.sublist_append_right _ _))
  | succ q ih =>
    intro i h a n c ks o ho hs hn hq hk
    unfold ref19_rows_l0
    rw [if_pos (by omega)]
    have ho' : Own h0 h ((b6, #[.int .i64 f, .int .i64 b, .int .i64 m], 50) :: (o ++ X)) := ho
    refine ldI0 ho' rfl ?_
    refine ldI0 ho' rfl ?_
    refine ldI0 ho' rfl ?_
    refine rrow_sp ho w1 fun a1 n1 c1 o1 h2 ho2 => ?_
    have ho2 := ho2.sub (List.sublist_append_right o1 _)
    refine gap_o ho2 fun h1 ho1 => ?_
    refine SlO.app (f := rf) (sz := 1) (js := [(a1, n1, c1)]) rf_len rfl hs ho1 (by simp only [List.length_singleton]; omega) (by simp only [List.length_singleton]; omega) fun a' c' o' h' ho2 hs2 => ?_
    rw [wrap64 (by omega) (by omega), show (i : Int) + 1 = ((i + 1 : Nat) : Int) by omega]
    exact ih (i + 1) h' a' (n + 1) c' _ o' ho2 hs2 (by omega) (by omega) hk
theorem rrows_sp {h0 : Base} {h : Heap} {w hh f b m : Int} {X : Blks} {K : Option Addr → Nat → Nat → Heap → Prop} (ho : Own h0 h X) (w1 : w ≤ 1000) (h1' : hh ≤ 1000) (hk : ∀ a n c h1, Own h0 h1 X → K a n c h1) : ref19_rows w hh f b m K h := by
  unfold ref19_rows
  refine newB_o ho fun b5 h1 ho1 => ⟨(hh - 0).toNat + 1, ?_⟩
  exact rrows_l0 w1 h1' (hh - 0).toNat 0 h1 none 0 0 [] [] ho1 SlO.nil rfl rfl hk
theorem rtabs_l0 {h0 : Base} {w : Int} {X : Blks} {K0 : Option Addr → Nat → Nat → Heap → Prop} (w1 : w ≤ 1000) :
    ∀ (q : Nat) (i : Nat) (h : Heap) (a : Option Addr) (n c : Nat) (ks) (o : Blks), Own h0 h ([] ++ (o ++ X)) → SlO tf 1 4 a n c ks o → n = i → (w - i).toNat = q →
      (∀ a' n' c' h1, Own h0 h1 X → K0 a' n' c' h1) → ref19_tabs_l0 K0 (q + 1) w a n c i h := by
  intro q
  induction q with
  | zero =>
    intro i h a n c ks o ho hs hn hq hk
    unfold ref19_tabs_l0
    rw [if_neg (by omega)]
    exact hk a n c h (Own.sub (l := o ++ X) ho (List.sublist_append_right _ _))
  | succ q ih =>
    intro i h a n c ks o ho hs hn hq hk
    unfold ref19_tabs_l0
    rw [if_pos (by omega)]
    refine gap_o ho fun h1 ho1 => ?_
    refine SlO.app (f := tf) (sz := 1) (js := [((decide (0 < (i : Int))) && (decide ((Int.tmod (i : Int) 8) = 0)))]) tf_len rfl hs ho1 (by simp only [List.length_singleton]; omega) (by simp only [List.length_singleton]; omega) fun a' c' o' h' ho2 hs2 => ?_
    rw [wrap64 (by omega) (by omega), show (i : Int) + 1 = ((i + 1 : Nat) : Int) by omega]
    exact ih (i + 1) h' a' (n + 1) c' _ o' ho2 hs2 (by omega) (by omega) hk
theorem rtabs_sp {h0 : Base} {h : Heap} {w : Int} {X : Blks} {K : Option Addr → Nat → Nat → Heap → Prop} (ho : Own h0 h X) (w1 : w ≤ 1000) (hk : ∀ a n c h1, Own h0 h1 X → K a n c h1) : ref19_tabs w K h := by
  unfold ref19_tabs
  exact ⟨(w - 0).toNat + 1, rtabs_l0 w1 (w - 0).toNat 0 h none 0 0 [] [] ho SlO.nil rfl rfl hk⟩
abbrev rzC (w hh m : Int) : Array Value := #[.int .i64 w, .int .i64 hh, .int .i64 m, .slice none 0 0, .slice none 0 0, .bool false, .slice none 0 0, .int .i64 0, .int .i64 0, .bool false, .int .i64 0, .int .i64 0, .int .i64 0, .int .i64 0, .int .i64 0, .bool false, .bool false, .bool false, .bool false, .bool false, .bool false, .bool false, .slice none 0 0, .bool false, .bool false, .int .i64 0, .bool false, .int .i64 0, .int .i64 0, .int .i64 0, .int .i64 0, .int .i64 0, .bool false, .bool false, .bool false, .int .i64 0, .bool false, .bool false, .int .i64 0, .int .i64 0, .int .i64 0, .int .i64 0, .int .i64 0, .bool false, .bool false, .bool false, .int .i64 0, .bool false, .string (⟨#[]⟩ : ByteArray), .string (⟨#[]⟩ : ByteArray), .int .i64 0, .int .i32 0, .int .i64 0, .string (⟨#[]⟩ : ByteArray), .bool false]
abbrev rfC (w hh m : Int) (ra : Option Addr) (rn rc : Nat) (ta : Option Addr) (tn tc : Nat) : Array Value := #[.int .i64 w, .int .i64 hh, .int .i64 m, .slice ra rn rc, .slice none 0 0, .bool false, .slice none 0 0, .int .i64 0, .int .i64 0, .bool false, .int .i64 0, .int .i64 0, .int .i64 0, .int .i64 0, .int .i64 (hh - 1), .bool false, .bool false, .bool false, .bool true, .bool false, .bool false, .bool false, .slice ta tn tc, .bool false, .bool false, .int .i64 0, .bool false, .int .i64 0, .int .i64 0, .int .i64 0, .int .i64 0, .int .i64 0, .bool false, .bool false, .bool false, .int .i64 0, .bool false, .bool false, .int .i64 0, .int .i64 0, .int .i64 0, .int .i64 0, .int .i64 0, .bool false, .bool false, .bool false, .int .i64 0, .bool false, .string (⟨#[]⟩ : ByteArray), .string (⟨#[]⟩ : ByteArray), .int .i64 0, .int .i32 0, .int .i64 0, .string (⟨#[]⟩ : ByteArray), .bool false]
theorem rreset_sp {h0 : Base} {h : Heap} {w hh m : Int} {s : Nat} {X : Blks} {K : Heap → Prop} (ho : Own h0 h ((s, rzC w hh m, 95) :: X)) (w1 : w ≤ 1000) (h0' : 1 ≤ hh) (h1' : hh ≤ 1000) (hk : ∀ h1, Own h0 h1 X → K h1) : ref19_Screen_reset (some ⟨s, 0, none⟩) K h := by
  unfold ref19_Screen_reset
  refine nz_i ?_
  simp only [add0, Nat.zero_add]
  refine ldI0 ho rfl ?_
  refine ldI0 ho rfl ?_
  refine ldI0 ho rfl ?_
  refine ldL0 ho rfl ?_
  refine ldS0 ho rfl ?_
  refine ldI0 ho rfl ?_
  refine newB_o ho fun b h1 ho1 => ?_
  have hb := ho1.get1
  refine ⟨⟨hb.cell 50 rfl, hb.cell 49 rfl, hb.cell 6 rfl, hb.cell 2 rfl, hb.cell 1 rfl, hb.cell 0 rfl⟩, ?_⟩
  refine st0 ho1 rfl fun h2 ho2 => ?_
  have ho2 := own_cs (c' := rzC w hh m) ho2 (by kernel_rfl)
  refine ldI1 ho2 rfl ?_
  refine ldI1 ho2 rfl ?_
  refine rrows_sp ho2 w1 h1' fun ra rn rc h3 ho3 => ?_
  refine st0 ho3 rfl fun h4 ho4 => ?_
  refine ldI1 ho4 rfl ?_
  refine rtabs_sp ho4 w1 fun ta tn tc h5 ho5 => ?_
  refine st0 ho5 rfl fun h6 ho6 => ?_
  refine ldI1 ho6 rfl ?_
  rw [wrap64 (x := hh - 1) (by omega) (by omega)]
  refine st0 ho6 rfl fun h7 ho7 => ?_
  refine st0 ho7 rfl fun h8 ho8 => ?_
  have ho9 := own_cs (c' := rfC w hh m ra rn rc ta tn tc) ho8 (by kernel_rfl)
  refine ldI0 ho9 rfl ?_
  refine ldI0 ho9 rfl ?_
  refine ldI0 ho9 rfl ?_
  refine ldL0 ho9 rfl ?_
  refine ldL0 ho9 rfl ?_
  refine ldB0 ho9 rfl ?_
  refine ldL0 ho9 rfl ?_
  refine ldI0 ho9 rfl ?_
  refine ldI0 ho9 rfl ?_
  refine ldB0 ho9 rfl ?_
  refine ldI0 ho9 rfl ?_
  refine ldI0 ho9 rfl ?_
  refine ldI0 ho9 rfl ?_
  refine ldI0 ho9 rfl ?_
  refine ldI0 ho9 rfl ?_
  refine ldB0 ho9 rfl ?_
  refine ldB0 ho9 rfl ?_
  refine ldB0 ho9 rfl ?_
  refine ldB0 ho9 rfl ?_
  refine ldB0 ho9 rfl ?_
  refine ldB0 ho9 rfl ?_
  refine ldB0 ho9 rfl ?_
  refine ldL0 ho9 rfl ?_
  refine ldB0 ho9 rfl ?_
  refine ldB0 ho9 rfl ?_
  refine ldI0 ho9 rfl ?_
  refine ldB0 ho9 rfl ?_
  refine ldI0 ho9 rfl ?_
  refine ldI0 ho9 rfl ?_
  refine ldI0 ho9 rfl ?_
  refine ldI0 ho9 rfl ?_
  refine ldI0 ho9 rfl ?_
  refine ldB0 ho9 rfl ?_
  refine ldB0 ho9 rfl ?_
  refine ldB0 ho9 rfl ?_
  refine ldI0 ho9 rfl ?_
  refine ldB0 ho9 rfl ?_
  refine ldB0 ho9 rfl ?_
  refine ldI0 ho9 rfl ?_
  refine ldI0 ho9 rfl ?_
  refine ldI0 ho9 rfl ?_
  refine ldI0 ho9 rfl ?_
  refine ldI0 ho9 rfl ?_
  refine ldB0 ho9 rfl ?_
  refine ldB0 ho9 rfl ?_
  refine ldB0 ho9 rfl ?_
  refine ldI0 ho9 rfl ?_
  refine ldB0 ho9 rfl ?_
  refine ldS0 ho9 rfl ?_
  refine ldS0 ho9 rfl ?_
  refine ldI0 ho9 rfl ?_
  refine ldI0 ho9 rfl ?_
  refine ldI0 ho9 rfl ?_
  refine ldS0 ho9 rfl ?_
  refine ldB0 ho9 rfl ?_
  refine st1 ho9 rfl fun h9 ho10 => ?_
  exact hk h9 ho10.tail.tail
theorem RNew_sp {h0 : Base} {h : Heap} {X : Blks} {w hh most : Int} {K : Option Addr → Int → Heap → Prop} (ho : Own h0 h X) (hb : ∀ e, badV w hh most = some e → K none e h)
    (hk : badV w hh most = none → ∀ b h1, Own h0 h1 X → K (some ⟨b, 0, none⟩) 0 h1) : ref19_New w hh most K h := by
  unfold ref19_New
  unfold badV at hb hk
  by_cases h1 : 1 ≤ w ∧ w ≤ 1000 ∧ 1 ≤ hh ∧ hh ≤ 1000
  case neg =>
    rw [if_pos (by simp; omega)]
    exact hb 41 (if_neg h1)
  rw [if_neg (by simp; omega)]
  simp only [if_pos h1] at hb hk
  by_cases h2 : 0 ≤ most ∧ most ≤ 2000
  case neg =>
    rw [if_pos (by simp; omega)]
    exact hb 1 (if_neg h2)
  rw [if_neg (by simp; omega)]
  refine newB_o ho fun b h3 ho3 => ?_
  exact rreset_sp (m := most) ho3 h1.2.1 h1.2.2.1 h1.2.2.2 fun h4 ho4 => hk (if_pos h2) b h4 ho4
end Go.Proofs.YthjdnhhifjpidaaGreatDoor.M
set_option maxRecDepth 100000
namespace Go.Proofs.YthjdnhhifjpidaaGreatDoor.M
open Go Go.Hp

/-! ### Two pictures of one content are the same -/
theorem ba_beq (s : ByteArray) : (s == s) = true := by
  show (s.data == s.data) = true
  simp
theorem ldI_c {h : Heap} {a : Addr} {k : IntKind} {v : Int} {K : Int → Prop} (hc : cellH h a = some (.int k v)) (hk : K v) : ldI h k a K := ⟨v, hc, hk⟩
theorem ldS_c {h : Heap} {a : Addr} {v : ByteArray} {K : ByteArray → Prop} (hc : cellH h a = some (.string v)) (hk : K v) : ldS h a K := ⟨v, hc, hk⟩
theorem ldL_b {h : Heap} {b off : Nat} {c : Array Value} {t : TypeId} {a : Option Addr} {n cc : Nat} {K : Option Addr → Nat → Nat → Prop} (hb : Blk h b c t) (hv : c[off]? = some (.slice a n cc)) (hk : K a n cc) : ldL h ⟨b, off, none⟩ K := ⟨_, _, _, hb.cell off hv, hk⟩
theorem same_l0 {h : Heap} {b1 b2 : Nat} {w hh x y : Int} {hid : Bool} {t : ByteArray} {w' hh' x' y' : Int} {hid' : Bool} {t' : ByteArray} {a1 a2 : Option Addr} {n c1 c2 : Nat} {ks : List Gl} {K0 : Heap → Prop} {Kr : Bool → Heap → Prop}
    (hb1 : Blk h b1 (picC w hh a1 n c1 x y hid t) 36) (hb2 : Blk h b2 (picC w' hh' a2 n c2 x' y' hid' t') 36)
    (d1 : ∀ i, i < n → ∃ p, a1 = some p ∧ ∀ j v, (gf (ks.getD i gl0))[j]? = some v → cellH h ((p.add (i * 5)).add j) = some v)
    (d2 : ∀ i, i < n → ∃ p, a2 = some p ∧ ∀ j v, (gf (ks.getD i gl0))[j]? = some v → cellH h ((p.add (i * 5)).add j) = some v) (hn : n ≤ 2000000) (hk : K0 h) :
    ∀ (q i : Nat), n - i = q → i ≤ n → law19_same_l0 K0 Kr (q + 1) b1 b2 i h := by
  intro q
  induction q with
  | zero =>
    intro i hq hi
    unfold law19_same_l0
    refine ldL_b hb1 rfl ?_
    rw [if_neg (by omega)]
    exact hk
  | succ q ih =>
    intro i hq hi
    unfold law19_same_l0
    refine ldL_b hb1 rfl ?_
    rw [if_pos (by omega)]
    refine ldL_b hb1 rfl ?_
    obtain ⟨p, hp, e1⟩ := d1 i (by omega)
    obtain ⟨p', hp', e2⟩ := d2 i (by omega)
    have hte : ((i : Int)).toNat = i := by omega
    refine ⟨p, hp, by omega, by omega, ?_⟩
    rw [hte]
    refine ldS_c (e1 0 _ rfl) (ldI_c (e1 1 _ rfl) (ldI_c (e1 2 _ rfl) (ldI_c (e1 3 _ rfl) (ldI_c (e1 4 _ rfl) ?_))))
    refine ldL_b hb2 rfl ?_
    refine ⟨p', hp', by omega, by omega, ?_⟩
    refine ldS_c (e2 0 _ rfl) (ldI_c (e2 1 _ rfl) (ldI_c (e2 2 _ rfl) (ldI_c (e2 3 _ rfl) (ldI_c (e2 4 _ rfl) ?_))))
    rw [if_neg (by rw [ba_beq]; simp)]
    rw [wrap64 (by omega) (by omega), show (i : Int) + 1 = ((i + 1 : Nat) : Int) by omega]
    exact ih (i + 1) (by omega) (by omega)
theorem same_sp {h0 : Base} {h : Heap} {X oc1 oc2 : Blks} {w hh x y : Int} {hid : Bool} {t : ByteArray} {a1 a2 : Option Addr} {n1 n2 c1 c2 : Nat} {ks : List Gl} {K : Bool → Heap → Prop} (ho : Own h0 h (oc1 ++ (oc2 ++ X))) (s1 : SlO gf 5 52 a1 n1 c1 ks oc1) (s2 : SlO gf 5 52 a2 n2 c2 ks oc2) (hl : ks.length ≤ 2000000)
    (hk : ∀ h1, Own h0 h1 (oc1 ++ (oc2 ++ X)) → K true h1) : law19_same w hh a1 n1 c1 x y hid t w hh a2 n2 c2 x y hid t K h := by
  have e1 := s1.1
  have e2 := s2.1
  have e : n2 = n1 := by omega
  subst e
  unfold law19_same
  refine newB_o ho fun b1 h1 ho1 => newB_o ho1 fun b2 h2 ho2 => ?_
  have hb1 := ho2.get1
  have hb2 := ho2.get0
  refine ldI_b hb1 rfl (ldI_b hb2 rfl ?_)
  rw [if_pos rfl]
  refine ldI_b hb1 rfl (ldI_b hb2 rfl ?_)
  rw [if_pos rfl]
  refine ldI_b hb1 rfl (ldI_b hb2 rfl ?_)
  rw [if_pos rfl]
  refine ldI_b hb1 rfl (ldI_b hb2 rfl ?_)
  rw [if_pos rfl]
  refine ldB_b hb1 rfl (ldB_b hb2 rfl ?_)
  rw [if_neg (by simp)]
  refine ldS_b hb1 rfl (ldS_b hb2 rfl ?_)
  rw [if_neg (by simp)]
  refine ldL_b hb1 rfl (ldL_b hb2 rfl ?_)
  rw [if_pos rfl]
  refine ⟨n2 + 1, ?_⟩
  have hoA : Own h0 h2 ([(b2, picC w hh a2 n2 c2 x y hid t, 36), (b1, picC w hh a1 n2 c1 x y hid t, 36)] ++ (oc1 ++ (oc2 ++ X))) := ho2
  have hoB : Own h0 h2 (([(b2, picC w hh a2 n2 c2 x y hid t, 36), (b1, picC w hh a1 n2 c1 x y hid t, 36)] ++ oc1) ++ (oc2 ++ X)) := by simpa using ho2
  exact same_l0 hb1 hb2 (fun i hi => s1.get gf_len hoA i gl0 hi) (fun i hi => s2.get gf_len hoB i gl0 hi) (by omega) (hk h2 ho2.tail.tail) n2 0 (by omega) (by omega)

/-! ### The head of the statements: letters are shown, in colour -/
def worksS : Scr := strV (strV (newV 3 2 0) ⟨#[97, 98, 13, 10, 27, 91, 51, 49]⟩) ⟨#[109, 99]⟩
theorem worksS_l : worksS.sh.flatten = [(⟨#[97]⟩, 1, 0, 0, 0), (⟨#[98]⟩, 1, 0, 0, 0), (⟨#[32]⟩, 1, 0, 0, 0), (⟨#[99]⟩, 1, 2, 0, 0), (⟨#[32]⟩, 1, 0, 0, 0), (⟨#[32]⟩, 1, 0, 0, 0)] := by kernel_rfl
theorem worksS_f : worksS.w = 3 ∧ worksS.h = 2 ∧ worksS.pl.x = 1 ∧ worksS.pl.y = 1 := ⟨by kernel_rfl, by kernel_rfl, by kernel_rfl, by kernel_rfl⟩
theorem works_sp {h : Heap} {K : Bool → Heap → Prop} (ht : Tabs h) (hk : ∀ h1, Ext h h1 → K true h1) : law19_works K h := by
  unfold law19_works
  refine New_sp (X := []) (Own.init h) (fun e h2 he _ => ?_) fun _ _ _ _ _ _ b h2 hs2 => ?_
  · exact nomatch (show (none : Option Int) = some e from he)
  rw [if_neg (by simp)]
  have o := ok_new (w := 3) (h := 2) (most := 0) (by omega) (by omega) (by omega) (by omega) (by omega) (by omega)
  have u := u8_new 3 2 0
  refine Feed_sp ht hs2.rep o u (by decide) fun h3 hs3 => ?_
  refine Feed_sp ht hs3 (o.str _) (u.str _) (by decide) fun h4 hs4 => ?_
  refine Picture_sp hs4 ((o.str _).str _) fun a n c oc h5 hs5 hsl => ?_
  have hsl : SlO gf 5 52 a n c worksS.sh.flatten oc := hsl
  have hf := worksS_f
  show if (((((decide (worksS.w = 3)) && (decide (worksS.h = 2))) && (decide ((n : Int) = 6))) && (decide (worksS.pl.x = 1))) && (decide (worksS.pl.y = 1))) = true then _ else _
  rw [worksS_l] at hsl
  have hn : n = 6 := hsl.1
  rw [if_pos (by rw [hf.1, hf.2.1, hf.2.2.1, hf.2.2.2, hn]; decide)]
  obtain ⟨L, ho, hb⟩ := hs5.own
  have ho : Own (⟨h, []⟩ : Base) h5 (L ++ (oc ++ [])) := by simpa using ho
  obtain ⟨p, hp, _⟩ := hsl.get gf_len ho 0 gl0 (by omega)
  subst hp
  refine nz_i ⟨by omega, by omega, fun h6 he6 => ?_⟩
  have ho6 := ho.gap he6
  obtain ⟨p1, hp1, d1⟩ := hsl.get gf_len ho6 1 gl0 (by omega)
  obtain rfl : p = p1 := Option.some.inj hp1
  obtain ⟨p3, hp3, d3⟩ := hsl.get gf_len ho6 3 gl0 (by omega)
  obtain rfl : p = p3 := Option.some.inj hp3
  obtain ⟨p5, hp5, d5⟩ := hsl.get gf_len ho6 5 gl0 (by omega)
  obtain rfl : p = p5 := Option.some.inj hp5
  refine ldS_c (d1 0 _ rfl) (ldI_c (d1 1 _ rfl) (ldI_c (d1 2 _ rfl) (ldI_c (d1 3 _ rfl) (ldI_c (d1 4 _ rfl) ?_))))
  rw [if_pos (by decide)]
  refine ⟨by omega, by omega, ldS_c (d3 0 _ rfl) (ldI_c (d3 1 _ rfl) (ldI_c (d3 2 _ rfl) (ldI_c (d3 3 _ rfl) (ldI_c (d3 4 _ rfl) ?_))))⟩
  rw [if_pos (by decide)]
  refine ⟨by omega, by omega, ldS_c (d5 0 _ rfl) (ldI_c (d5 1 _ rfl) (ldI_c (d5 2 _ rfl) (ldI_c (d5 3 _ rfl) (ldI_c (d5 4 _ rfl) ?_))))⟩
  exact hk h6 ho6.ext
end Go.Proofs.YthjdnhhifjpidaaGreatDoor.M
set_option maxRecDepth 100000
namespace Go.Proofs.YthjdnhhifjpidaaGreatDoor.M
open Go Go.Hp

/-! ### Both screens are made -/
theorem made_sp {h0 : Base} {h : Heap} {X : Blks} {w hh m : Int} {K : Option Addr → Option Addr → Bool → Heap → Prop} (ht : Tabs h0.h) (ho : Own h0 h X) (hb : ∀ e h1, badV w hh m = some e → Own h0 h1 X → K none none true h1)
    (hk : 1 ≤ w → w ≤ 1000 → 1 ≤ hh → hh ≤ 1000 → 0 ≤ m → m ≤ 2000 → ∀ b b2 h1, RepX h0 h1 b (newV w hh m) X → K (some ⟨b, 0, none⟩) (some ⟨b2, 0, none⟩) true h1) : law19_made w hh m K h := by
  unfold law19_made
  refine newB_o ho fun b4 h1 ho1 => ?_
  refine ldI0 ho1 rfl (ldI0 ho1 rfl (ldI0 ho1 rfl ?_))
  refine New_sp ho1 (fun e h2 he ho2 => ?_) fun w0 w1 hh0 hh1 m0 m1 b h2 hs2 => ?_
  · refine ldI0 ho2 rfl (ldI0 ho2 rfl (ldI0 ho2 rfl ?_))
    refine RNew_sp (X := (b4, #[.int .i64 w, .int .i64 hh, .int .i64 m], 23) :: X) ho2 (fun e' he' => ?_) (fun hn => ?_)
    · have : e = e' := Option.some.inj (he.symm.trans he')
      subst this
      refine works_sp (ht.ext ho2.ext) fun h3 he3 => ?_
      have hz : ((true && (decide (e = e))) && ((none : Option Addr).isNone == (none : Option Addr).isNone)) = true := by simp
      rw [hz]
      exact hb e h3 he (ho2.gap he3).tail
    · rw [hn] at he
      exact nomatch he
  · have hb4 := hs2.blkX (b := b4) (c := #[.int .i64 w, .int .i64 hh, .int .i64 m]) (t := 23) (by simp)
    refine ldI_b hb4 rfl (ldI_b hb4 rfl (ldI_b hb4 rfl ?_))
    obtain ⟨L, ho2, hback⟩ := hs2.own
    have hnb : badV w hh m = none := by
      unfold badV
      rw [if_pos ⟨w0, w1, hh0, hh1⟩, if_pos ⟨m0, m1⟩]
    refine RNew_sp ho2 (fun e' he' => ?_) (fun _ b2 h3 ho3 => ?_)
    · rw [hnb] at he'
      exact nomatch he'
    refine works_sp (ht.ext ho3.ext) fun h4 he4 => ?_
    have hs4 := hback _ _ (ho3.gap he4)
    have hz : ((true && (decide ((0 : Int) = 0))) && ((some (⟨b, 0, none⟩ : Addr)).isNone == (some (⟨b2, 0, none⟩ : Addr)).isNone)) = true := by simp
    rw [hz]
    exact hk w0 w1 hh0 hh1 m0 m1 b b2 h4 (hs4.subX (List.sublist_cons_self _ _))

end Go.Proofs.YthjdnhhifjpidaaGreatDoor.M
