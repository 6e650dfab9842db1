import Derived.Test.YthjdnhhifjpidaaDoorU24
set_option linter.unusedVariables false
set_option linter.unusedSimpArgs false
set_option maxRecDepth 100000
namespace Go.Proofs.YthjdnhhifjpidaaDoor.M
open Go Go.Hp

/-! ### What stays whatever is done: the sizes and the bells -/
structure Fx (R S : Scr) : Prop where
  w : S.w = R.w
  h : S.h = R.h
  most : S.most = R.most
  bells : S.bells = R.bells
  u : 0 ≤ R.u0 ∧ R.u0 ≤ 255 → 0 ≤ S.u0 ∧ S.u0 ≤ 255
theorem Fx.self (S : Scr) : Fx S S := ⟨rfl, rfl, rfl, rfl, fun h => h⟩
theorem ite_fx {R : Scr} {c : Prop} [Decidable c] {a b : Scr} (ha : Fx R a) (hb : Fx R b) : Fx R (if c then a else b) := by
  by_cases h : c
  · rw [if_pos h]; exact ha
  · rw [if_neg h]; exact hb
section
variable {R S : Scr}
theorem Fx.setPl (f : Fx R S) (p : Pl) : Fx R (S.setPl p) := ⟨f.w, f.h, f.most, f.bells, f.u⟩
theorem Fx.to (f : Fx R S) (x y : Int) : Fx R (toV S x y) := ⟨f.w, f.h, f.most, f.bells, f.u⟩
theorem Fx.home (f : Fx R S) (x y : Int) : Fx R (homeV S x y) := f.to _ _
theorem Fx.rowsUp (f : Fx R S) (n : Int) : Fx R (rowsUpV S n) := f.to _ _
theorem Fx.rowsDown (f : Fx R S) (n : Int) : Fx R (rowsDownV S n) := f.to _ _
theorem Fx.tab (f : Fx R S) (n : Int) : Fx R (tabV S n) := f.to _ _
theorem Fx.back (f : Fx R S) (n : Int) : Fx R (backV S n) := f.to _ _
theorem Fx.setX (f : Fx R S) (x : Int) : Fx R (M.setX S x) := f.setPl _
theorem Fx.setY (f : Fx R S) (x : Int) : Fx R (M.setY S x) := f.setPl _
theorem Fx.unwait (f : Fx R S) : Fx R (M.unwait S) := f.setPl _
theorem Fx.setSh (f : Fx R S) (g) : Fx R (S.setSh g) := ite_fx ⟨f.w, f.h, f.most, f.bells, f.u⟩ ⟨f.w, f.h, f.most, f.bells, f.u⟩
theorem Fx.keepOne (f : Fx R S) (t : Int) (k : Bool) : Fx R (M.keepOne S t k) := ite_fx (ite_fx f ⟨f.w, f.h, f.most, f.bells, f.u⟩) f
theorem Fx.upL (t b : Int) (k : Bool) : ∀ (n : Nat) (S : Scr), Fx R S → Fx R (M.upL t b k n S)
  | 0, S, f => f
  | n + 1, S, f => Fx.upL t b k n _ ((f.keepOne t k).setSh _)
theorem Fx.up (f : Fx R S) (t b n : Int) (k : Bool) : Fx R (upV S t b n k) := Fx.upL t b k _ S f
theorem Fx.downL (t b : Int) : ∀ (n : Nat) (S : Scr), Fx R S → Fx R (M.downL t b n S)
  | 0, S, f => f
  | n + 1, S, f => Fx.downL t b n _ (f.setSh _)
theorem Fx.down (f : Fx R S) (t b n : Int) : Fx R (downV S t b n) := Fx.downL t b _ S f
theorem Fx.feed (f : Fx R S) : Fx R (feedV S) := ite_fx (f.up _ _ _ _).unwait (ite_fx (f.setY _).unwait f.unwait)
theorem Fx.setKept (f : Fx R S) (p) : Fx R (S.setKept p) := ite_fx ⟨f.w, f.h, f.most, f.bells, f.u⟩ ⟨f.w, f.h, f.most, f.bells, f.u⟩
theorem Fx.keepCursor (f : Fx R S) : Fx R (keepCursorV S) := f.setKept _
theorem Fx.backCursor (f : Fx R S) : Fx R (backCursorV S) := f.setPl _
theorem Fx.soft (f : Fx R S) : Fx R (softV S) := (Fx.setKept (S := soft0 S) ⟨f.w, f.h, f.most, f.bells, f.u⟩ none).unwait
theorem Fx.swap (f : Fx R S) (on : Bool) : Fx R (swapV S on) :=
  ite_fx f (ite_fx (Fx.unwait (S := { S with alt := true, other := sheetV S.w S.h 0 S.pl.back 0, okept := none }) ⟨f.w, f.h, f.most, f.bells, f.u⟩) (Fx.unwait (S := { S with alt := false, other := [], okept := none }) ⟨f.w, f.h, f.most, f.bells, f.u⟩))
theorem Fx.setRow (f : Fx R S) (g) : Fx R (S.setRow g) := f.setSh _
theorem Fx.open (f : Fx R S) (n : Int) : Fx R (openV S n) := f.setRow _
theorem Fx.shut (f : Fx R S) (n : Int) : Fx R (shutV S n) := f.setRow _
theorem Fx.lines1 (f : Fx R S) (b n : Int) : Fx R (lines1V S b n) := ite_fx f (ite_fx f (ite_fx ((f.down _ _ _).to _ _) ((f.up _ _ _ _).to _ _)))
theorem Fx.places (f : Fx R S) (b n : Int) : Fx R (placesV S b n) := ite_fx (f.open _).unwait (ite_fx (f.shut _).unwait (ite_fx (f.setRow _).unwait f.unwait))
theorem Fx.ahead (f : Fx R S) (n : Int) : Fx R (M.ahead S n) := ite_fx (f.setPl _) (f.setPl _)
theorem Fx.put (f : Fx R S) (c n : Int) : Fx R (putV S c n) := (f.setRow _).ahead n
theorem Fx.setLast (f : Fx R S) (c : Int) : Fx R (M.setLast S c) := ⟨f.w, f.h, f.most, f.bells, f.u⟩
theorem Fx.write3 (f : Fx R S) (c n t : Int) : Fx R (M.write3 S c n t) := ite_fx (((f.setLast t).open n).put c n) ((f.setLast t).put c n)
theorem Fx.write2 (f : Fx R S) (c n t : Int) : Fx R (M.write2 S c n t) := ite_fx (ite_fx (ite_fx f (ite_fx f ((f.setX 0).feed.write3 c n t))) (f.write3 c n t)) (f.write3 c n t)
theorem Fx.write1 (f : Fx R S) (c n t : Int) : Fx R (M.write1 S c n t) := ite_fx (ite_fx ((f.setX 0).feed.write2 c n t) (f.write2 c n t)) (f.write2 c n t)
theorem Fx.write (f : Fx R S) (c : Int) : Fx R (writeV S c) := ite_fx f (ite_fx (f.write1 _ _ _) (f.write1 _ _ _))
theorem Fx.eraseAt (f : Fx R S) (y : Nat) (i to : Int) (g : Gl) : Fx R (M.eraseAt S y i to g) := f.setSh _
theorem Fx.clearsL (n : Int) (g : Gl) : ∀ (q : Nat) (i : Int) (S : Scr), Fx R S → Fx R (M.clearsL n g q i S)
  | 0, _, S, f => f
  | q + 1, i, S, f => ite_fx (Fx.clearsL n g q _ _ (f.eraseAt _ _ _ _)) (ite_fx (Fx.clearsL n g q _ _ (f.eraseAt _ _ _ _)) (Fx.clearsL n g q _ _ f))
theorem Fx.clears2 (f : Fx R S) (b n : Int) (g : Gl) : Fx R (M.clears2 S b n g) := ite_fx f (Fx.clearsL n g _ _ S f)
theorem Fx.clears1 (f : Fx R S) (b n : Int) (g : Gl) : Fx R (M.clears1 S b n g) := ite_fx ((f.eraseAt _ _ _ _).clears2 b n g) (f.clears2 b n g)
theorem Fx.clears0 (f : Fx R S) (b n : Int) (g : Gl) : Fx R (M.clears0 S b n g) := ite_fx ((f.eraseAt _ _ _ _).clears1 b n g) (f.clears1 b n g)
theorem Fx.noPast (f : Fx R S) : Fx R (M.noPast S) := ⟨f.w, f.h, f.most, f.bells, f.u⟩
theorem Fx.clears (f : Fx R S) (b n : Int) : Fx R (clearsV S b n) := ite_fx f.noPast.unwait (ite_fx f (f.unwait.clears0 b n _))
theorem Fx.private (f : Fx R S) (n : Int) (on : Bool) : Fx R (privateV S n on) := by
  unfold privateV
  refine ite_fx ⟨f.w, f.h, f.most, f.bells, f.u⟩ (ite_fx ⟨f.w, f.h, f.most, f.bells, f.u⟩ (ite_fx ((f.setPl _).home 1 1) (ite_fx ⟨f.w, f.h, f.most, f.bells, f.u⟩ (ite_fx ⟨f.w, f.h, f.most, f.bells, f.u⟩ (ite_fx (f.swap on) (ite_fx (ite_fx f.keepCursor f.backCursor) (ite_fx (ite_fx (ite_fx (f.keepCursor.swap true) f) (ite_fx (f.swap false).backCursor f)) f)))))))
theorem Fx.privL (on : Bool) : ∀ (l : List Int) (S : Scr), Fx R S → Fx R (M.privL on l S)
  | [], S, f => f
  | m :: l, S, f => Fx.privL on l _ (f.private m on)
theorem Fx.pensL (l : List Int) : ∀ (q i : Nat) (S : Scr), Fx R S → Fx R (M.pensL l q i S)
  | 0, _, S, f => f
  | q + 1, i, S, f => by
    unfold M.pensL
    refine ite_fx ?_ f
    iterate 11 (refine ite_fx (Fx.pensL l q _ _ (f.setPl _)) ?_)
    refine ite_fx ?_ (Fx.pensL l q _ _ f)
    refine ite_fx f ?_
    refine ite_fx (Fx.pensL l q _ _ (f.setPl _)) ?_
    exact ite_fx (Fx.pensL l q _ _ (f.setPl _)) (Fx.pensL l q _ _ f)
theorem Fx.pens (f : Fx R S) (l : List Int) : Fx R (pensV S l) := ite_fx (Fx.pensL _ _ _ S f) (Fx.pensL _ _ _ S f)
theorem Fx.sends (f : Fx R S) (t : ByteArray) : Fx R (sendsV S t) := ite_fx ⟨f.w, f.h, f.most, f.bells, f.u⟩ f
theorem Fx.repL : ∀ (q : Nat) (S : Scr), Fx R S → Fx R (M.repL q S)
  | 0, S, f => f
  | q + 1, S, f => ite_fx f (Fx.repL q _ (f.write _))
theorem Fx.modesL (on : Bool) : ∀ (l : List Int) (S : Scr), Fx R S → Fx R (M.modesL on l S)
  | [], S, f => f
  | m :: l, S, f => Fx.modesL on l _ (ite_fx ⟨f.w, f.h, f.most, f.bells, f.u⟩ (ite_fx ⟨f.w, f.h, f.most, f.bells, f.u⟩ f))
theorem Fx.tells (f : Fx R S) (a y : Int) : Fx R (tellsV S a y) := ite_fx (f.sends _) (ite_fx (f.sends _) f)
theorem Fx.region (f : Fx R S) (n e : Int) : Fx R (M.region S n e) := ite_fx (Fx.home (S := { S with top := n - 1, bottom := e - 1 }) ⟨f.w, f.h, f.most, f.bells, f.u⟩ 1 1) f
theorem Fx.others (f : Fx R S) (b : Int) (l : List Int) (n : Int) : Fx R (othersV S b l n) := by
  unfold othersV
  refine ite_fx (Fx.repL _ S f) (ite_fx (ite_fx ⟨f.w, f.h, f.most, f.bells, f.u⟩ (ite_fx ⟨f.w, f.h, f.most, f.bells, f.u⟩ f)) ?_)
  unfold others1
  exact ite_fx (Fx.modesL _ l S f) (ite_fx (f.pens l) (ite_fx (f.tells _ _) (ite_fx (ite_fx (f.sends _) f) (ite_fx (f.region _ _) (ite_fx f.keepCursor.unwait (ite_fx f.backCursor f))))))
theorem Fx.plain (f : Fx R S) (b : Int) (l : List Int) : Fx R (plainV S b l) := by
  unfold plainV plain1
  refine ite_fx (f.rowsUp _) (ite_fx (f.rowsDown _) (ite_fx (f.to _ _) (ite_fx (f.to _ _) (ite_fx ((f.rowsDown _).to _ _) (ite_fx ((f.rowsUp _).to _ _) ?_)))))
  unfold plain2
  refine ite_fx (f.to _ _) (ite_fx (f.home _ _) (ite_fx (f.home _ _) (ite_fx (f.tab _) (ite_fx (f.back _) ?_))))
  unfold plain4
  exact ite_fx (f.clears _ _) (ite_fx (f.lines1 _ _) (ite_fx (f.places _ _) (ite_fx (f.up _ _ _ _).unwait (ite_fx (f.down _ _ _).unwait (f.others _ _ _)))))
theorem Fx.controlled (f : Fx R S) (b : Int) : Fx R (controlledV S b) := ite_fx (ite_fx (Fx.privL _ _ S f) (ite_fx f.soft (ite_fx (f.plain _ _) f))) f
end
end Go.Proofs.YthjdnhhifjpidaaDoor.M
