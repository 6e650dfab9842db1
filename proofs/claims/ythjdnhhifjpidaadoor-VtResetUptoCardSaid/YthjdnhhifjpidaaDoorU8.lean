import Derived.Test.YthjdnhhifjpidaaDoorU7
set_option linter.unusedVariables false
set_option linter.unusedSimpArgs false
set_option maxRecDepth 100000
namespace Go.Proofs.YthjdnhhifjpidaaDoor.M
open Go Go.Hp

/-! ### Rows go up: one is taken out, a new one put in further down -/
def shiftUp {α : Type} (xs : List α) (t b : Nat) (new : α) : List α := xs.take t ++ ((xs.drop (t + 1)).take (b - t) ++ (new :: xs.drop (b + 1)))
def shiftDown {α : Type} (xs : List α) (t b : Nat) (new : α) : List α := xs.take t ++ (new :: ((xs.drop t).take (b - t) ++ xs.drop (b + 1)))
theorem shiftUp_copy {α : Type} (xs : List α) (t b : Nat) (new : α) (h1 : t ≤ b) (h2 : b < xs.length) : (copyV xs t (t + 1) (b - t)).set b new = shiftUp xs t b new := by
  unfold copyV shiftUp
  have e : xs.drop (t + (b - t)) = xs[b] :: xs.drop (b + 1) := by rw [show t + (b - t) = b by omega, List.drop_eq_getElem_cons h2]
  rw [e, List.set_append_right _ _ (by rw [List.length_take]; omega), List.set_append_right _ _ (by simp only [List.length_take, List.length_drop]; omega)]
  simp only [List.length_take, List.length_drop]
  rw [show b - min t xs.length - min (b - t) (xs.length - (t + 1)) = 0 by omega, List.set_cons_zero]
theorem shiftDown_copy {α : Type} (xs : List α) (t b : Nat) (new : α) (h1 : t ≤ b) (h2 : b < xs.length) : (copyV xs (t + 1) t (b - t)).set t new = shiftDown xs t b new := by
  unfold copyV shiftDown
  have e : xs.take (t + 1) = xs.take t ++ [xs[t]] := by rw [List.take_add_one, List.getElem?_eq_getElem (by omega)]; rfl
  rw [e, List.append_assoc, List.set_append_right _ _ (by rw [List.length_take]; omega)]
  simp only [List.length_take]
  rw [show t - min t xs.length = 0 by omega, List.singleton_append, List.set_cons_zero, show t + 1 + (b - t) = b + 1 by omega]
theorem RowsB.take {ks R bs} (hr : RowsB ks R bs) (d : Nat) : RowsB (ks.take d) (R.take d) (bs.take d) := by
  obtain ⟨h1, h2, h3⟩ := hr
  refine ⟨by simp [h1], by simp [h2], fun i hi => ?_⟩
  rw [List.length_take] at hi
  have := h3 i (by omega)
  rw [List.getD_eq_getElem?_getD (l := ks.take d), List.getElem?_take, if_pos (by omega), List.getD_eq_getElem?_getD (l := R.take d), List.getElem?_take, if_pos (by omega), List.getD_eq_getElem?_getD (l := bs.take d), List.getElem?_take, if_pos (by omega), ← List.getD_eq_getElem?_getD, ← List.getD_eq_getElem?_getD, ← List.getD_eq_getElem?_getD]
  exact this
theorem RowsB.append {ks R bs ks' R' bs'} (hr : RowsB ks R bs) (hr' : RowsB ks' R' bs') : RowsB (ks ++ ks') (R ++ R') (bs ++ bs') := by
  obtain ⟨h1, h2, h3⟩ := hr
  obtain ⟨h1', h2', h3'⟩ := hr'
  refine ⟨by simp [h1, h1'], by simp [h2, h2'], fun i hi => ?_⟩
  rw [List.length_append] at hi
  by_cases hii : i < R.length
  · rw [List.getD_eq_getElem?_getD (l := ks ++ ks'), List.getElem?_append_left (by omega), List.getD_eq_getElem?_getD (l := R ++ R'), List.getElem?_append_left hii, List.getD_eq_getElem?_getD (l := bs ++ bs'), List.getElem?_append_left (by omega), ← List.getD_eq_getElem?_getD, ← List.getD_eq_getElem?_getD, ← List.getD_eq_getElem?_getD]
    exact h3 i hii
  · rw [List.getD_eq_getElem?_getD (l := ks ++ ks'), List.getElem?_append_right (by omega), List.getD_eq_getElem?_getD (l := R ++ R'), List.getElem?_append_right (by omega), List.getD_eq_getElem?_getD (l := bs ++ bs'), List.getElem?_append_right (by omega), h1, h2, ← List.getD_eq_getElem?_getD, ← List.getD_eq_getElem?_getD, ← List.getD_eq_getElem?_getD]
    exact h3' (i - R.length) (by omega)
theorem RowsB.one {k : Option Addr × Nat × Nat} {g : List Gl} {b : Blks} (hs : SlO gf 5 43 k.1 k.2.1 k.2.2 g b) : RowsB [k] [g] [b] := by
  refine ⟨rfl, rfl, fun i hi => ?_⟩
  obtain rfl : i = 0 := by simpa using hi
  exact hs
theorem RowsB.up {ks R bs} (hr : RowsB ks R bs) (t b : Nat) {k : Option Addr × Nat × Nat} {g : List Gl} {o : Blks} (hs : SlO gf 5 43 k.1 k.2.1 k.2.2 g o) : RowsB (shiftUp ks t b k) (shiftUp R t b g) (shiftUp bs t b o) :=
  (hr.take t).append (((hr.drop (t + 1)).take (b - t)).append ((RowsB.one hs).append (hr.drop (b + 1))))
theorem RowsB.down {ks R bs} (hr : RowsB ks R bs) (t b : Nat) {k : Option Addr × Nat × Nat} {g : List Gl} {o : Blks} (hs : SlO gf 5 43 k.1 k.2.1 k.2.2 g o) : RowsB (shiftDown ks t b k) (shiftDown R t b g) (shiftDown bs t b o) :=
  (hr.take t).append ((RowsB.one hs).append (((hr.drop t).take (b - t)).append (hr.drop (b + 1))))
theorem up_own {h0 : Base} {h : Heap} {x : Nat × Array Value × TypeId} {oh o l : Blks} {bs : List Blks} (t b : Nat) (h1 : t ≤ b) (h2 : b < bs.length) (ho : Own h0 h (o ++ (x :: (oh ++ (bs.flatten ++ l))))) : Own h0 h (x :: (oh ++ ((shiftUp bs t b o).flatten ++ l))) := by
  have e : bs.flatten = (bs.take t).flatten ++ (bs.getD t [] ++ (((bs.drop (t + 1)).take (b - t)).flatten ++ (bs.drop (b + 1)).flatten)) := by
    rw [fl_split bs t (by omega)]
    congr 2
    have e2 : (bs.drop (t + 1)).drop (b - t) = bs.drop (b + 1) := by rw [List.drop_drop]; congr 1; omega
    rw [← e2, ← List.flatten_append, List.take_append_drop]
  rw [e] at ho
  have ho2 := ho.perm (l' := bs.getD t [] ++ (x :: (oh ++ (((bs.take t).flatten ++ (((bs.drop (t + 1)).take (b - t)).flatten ++ (o ++ (bs.drop (b + 1)).flatten))) ++ l)))) (by (classical exact List.perm_iff_count.2 (fun x => by simp only [List.count_append, List.count_cons, List.count_nil]; omega)))
  have ho3 := ho2.sub (List.sublist_append_right _ _)
  unfold shiftUp
  rw [List.flatten_append, List.flatten_append, List.flatten_cons]
  exact ho3
theorem down_own {h0 : Base} {h : Heap} {x : Nat × Array Value × TypeId} {oh o l : Blks} {bs : List Blks} (t b : Nat) (h1 : t ≤ b) (h2 : b < bs.length) (ho : Own h0 h (o ++ (x :: (oh ++ (bs.flatten ++ l))))) : Own h0 h (x :: (oh ++ ((shiftDown bs t b o).flatten ++ l))) := by
  have e : bs.flatten = (bs.take t).flatten ++ (((bs.drop t).take (b - t)).flatten ++ (bs.getD b [] ++ (bs.drop (b + 1)).flatten)) := by
    have e2 : bs.take b = bs.take t ++ (bs.drop t).take (b - t) := by
      conv => lhs; rw [show b = t + (b - t) by omega, List.take_add]
    rw [fl_split bs b h2, e2, List.flatten_append, List.append_assoc]
  rw [e] at ho
  have ho2 := ho.perm (l' := bs.getD b [] ++ (x :: (oh ++ (((bs.take t).flatten ++ (o ++ (((bs.drop t).take (b - t)).flatten ++ (bs.drop (b + 1)).flatten))) ++ l)))) (by (classical exact List.perm_iff_count.2 (fun x => by simp only [List.count_append, List.count_cons, List.count_nil]; omega)))
  have ho3 := ho2.sub (List.sublist_append_right _ _)
  unfold shiftDown
  rw [List.flatten_append, List.flatten_cons, List.flatten_append]
  exact ho3
theorem up_j1_sp {Kn : Addr → Int → Int → Bool → Option Addr → Nat → Nat → Int → Int → Heap → Prop} {h0 : Base} {h : Heap} {s : Nat} {cs : Array Value} {oh l : Blks} {bs : List Blks} {ks R} {a : Option Addr} {n c : Nat} {p : Addr} {w bk : Int} {t b y43 y44 : Int} {y41 : Bool}
    (ho : Own h0 h ((s, cs, 69) :: (oh ++ (bs.flatten ++ l)))) (hc0 : cs[0]? = some (.int .i64 w)) (hc12 : cs[12]? = some (.int .i64 bk)) (hH : SlO rf 1 72 a n c ks oh) (hR : RowsB ks R bs) (hp : a = some p) (t0 : 0 ≤ t) (tb : t ≤ b) (bn : b < n) (hn : n ≤ 100000) (hcn : n ≤ c) (w0 : 0 ≤ w) (w1 : w ≤ 100000)
    (hk : ∀ h' ks' oh' bs', Own h0 h' ((s, cs, 69) :: (oh' ++ (bs'.flatten ++ l))) → SlO rf 1 72 a n c ks' oh' → RowsB ks' (shiftUp R t.toNat b.toNat (List.replicate w.toNat (blankG 0 bk 0))) bs' → Kn ⟨s, 0, none⟩ t b y41 a n c y43 y44 h') : vt_Screen_up_j1 Kn (some ⟨s, 0, none⟩) t b y41 a n c y43 y44 h := by
  have hks := hH.1
  have hkb := hR.1
  have hbb := hR.2.1
  unfold vt_Screen_up_j1
  rw [wrap64 (x := b + 1) (by omega) (by omega), wrap64 (x := t + 1) (by omega) (by omega)]
  refine ⟨by omega, by omega, by omega, by omega, by omega, by omega, by omega, by omega, ?_⟩
  rw [show (t + 1).toNat = t.toNat + 1 by omega, show (b + 1).toNat = b.toNat + 1 by omega]
  have hoA : Own h0 h ([(s, cs, 69)] ++ (oh ++ (bs.flatten ++ l))) := ho
  refine SlO.copy rf_len rf_one hH hoA t.toNat (b.toNat - t.toNat) (t.toNat + 1) (b.toNat + 1 - (t.toNat + 1)) (by omega) (by omega) fun h1 o1 ho1 hs1 => ?_
  have hmin : Nat.min (b.toNat + 1 - (t.toNat + 1)) (b.toNat - t.toNat) = b.toNat - t.toNat := by
    rw [show b.toNat + 1 - (t.toNat + 1) = b.toNat - t.toNat by omega]
    exact Nat.min_self _
  rw [hmin] at hs1
  have ho1 : Own h0 h1 ((s, cs, 69) :: (o1 ++ (bs.flatten ++ l))) := ho1
  refine nz_i ?_
  refine ldI0 ho1 hc0 ?_
  refine erased_o ho1 hc12 fun h2 he2 => ?_
  have ho2 := ho1.gap he2
  refine ⟨ho2.get0.cell 0 hc0, fresh_sp ho2 w0 w1 fun ra ro h3 ho3 hrow => ?_⟩
  rw [hp]
  refine nz_i ⟨by omega, by omega, ?_⟩
  have ho3A : Own h0 h3 ((ro ++ [(s, cs, 69)]) ++ (o1 ++ (bs.flatten ++ l))) := by simpa using ho3
  refine SlO.set rf_len hs1 ho3A b.toNat (ra, w.toNat, w.toNat) (by omega) hp fun h4 o4 ho4 hs4 => ?_
  have ho4 : Own h0 h4 (ro ++ ((s, cs, 69) :: (o4 ++ (bs.flatten ++ l)))) := by simpa using ho4
  rw [shiftUp_copy ks t.toNat b.toNat _ (by omega) (by omega)] at hs4
  rw [← hp]
  exact hk h4 _ o4 _ (up_own t.toNat b.toNat (by omega) (by omega) ho4) hs4 (hR.up t.toNat b.toNat hrow)
end Go.Proofs.YthjdnhhifjpidaaDoor.M
