import Derived.Test.YthjdnhhifjpidaaDoorU4
set_option linter.unusedVariables false
set_option linter.unusedSimpArgs false
set_option maxRecDepth 100000
namespace Go.Proofs.YthjdnhhifjpidaaDoor.M
open Go Go.Hp

/-! ### New rows, a new sheet -/
theorem rep_flat {α : Type} (f : α → List Value) (k : α) : ∀ n : Nat, (List.replicate n k).flatMap f = zeros (f k) n
  | 0 => rfl
  | n + 1 => by
    have := rep_flat f k n
    unfold zeros at this ⊢
    rw [List.replicate_succ, List.flatMap_cons, this, List.replicate_succ, List.flatten_cons]
theorem zeros_slo {α : Type} {f : α → List Value} {sz : Nat} {t : TypeId} {b n : Nat} (k : α) : SlO f sz t (some ⟨b, 0, none⟩) n n (List.replicate n k) [(b, (zeros (f k) n).toArray, t)] :=
  ⟨by simp, .inr ⟨b, _, [], rfl, rfl, by rw [rep_flat]; simp, by simp, Nat.le_refl _⟩⟩
def blankG (f b m : Int) : Gl := (⟨#[32]⟩, 1, f, b, m)
theorem fresh_l0 {h0 : Base} {b : Nat} {l : Blks} {f b_ m w : Int} {a : Option Addr} {n c : Nat} {K : Option Addr → Nat → Nat → Heap → Prop} (hw : w = n) (hn : n ≤ 100000) :
    ∀ (q : Nat) (i : Nat) (h : Heap) (r : List Gl) (o : Blks), SlO gf 5 43 a n c r o → Own h0 h ([(b, #[.int .i64 f, .int .i64 b_, .int .i64 m], 41)] ++ (o ++ l)) → n - i = q → i ≤ n → (∀ j, j < i → r.getD j gl0 = blankG f b_ m) →
      (∀ h' o', Own h0 h' (o' ++ l) → SlO gf 5 43 a n c (List.replicate n (blankG f b_ m)) o' → K a n c h') → vt_fresh_l0 K (q + 1) b a n c w i h := by
  intro q
  induction q with
  | zero =>
    intro i h r o hs ho hq hi hr hk
    have ho' : Own h0 h ((b, #[.int .i64 f, .int .i64 b_, .int .i64 m], 41) :: (o ++ l)) := ho
    unfold vt_fresh_l0
    rw [if_neg (by omega)]
    have hl := hs.1
    have e : r = List.replicate n (blankG f b_ m) := by
      apply List.ext_getElem?
      intro j
      by_cases hj : j < n
      · have := hr j (by omega)
        rw [List.getD_eq_getElem?_getD, List.getElem?_eq_getElem (by omega)] at this
        rw [List.getElem?_eq_getElem (by omega), List.getElem?_replicate, if_pos hj]
        exact congrArg some this
      · rw [List.getElem?_eq_none (by omega), List.getElem?_replicate, if_neg hj]
    rw [e] at hs
    exact hk h o ho'.tail hs
  | succ q ih =>
    intro i h r o hs ho hq hi hr hk
    have ho' : Own h0 h ((b, #[.int .i64 f, .int .i64 b_, .int .i64 m], 41) :: (o ++ l)) := ho
    unfold vt_fresh_l0
    rw [if_pos (by omega)]
    refine ldI0 ho' rfl ?_
    refine ldI0 ho' rfl ?_
    refine ldI0 ho' rfl ?_
    obtain ⟨p, hp, _⟩ := hs.get gf_len ho i gl0 (by omega)
    rw [hp]
    refine nz_i ⟨by omega, by omega, gap_o ho fun h1 ho1 => ?_⟩
    rw [show ((i : Int)).toNat = i by omega]
    refine SlO.set gf_len hs ho1 i (blankG f b_ m) (by omega) hp fun h2 o2 ho2 hs2 => ?_
    rw [wrap64 (by omega) (by omega), show (i : Int) + 1 = ((i + 1 : Nat) : Int) by omega, ← hp]
    have hl := hs.1
    refine ih (i + 1) h2 _ o2 hs2 ho2 (by omega) (by omega) (fun j hj => ?_) hk
    by_cases hji : j = i
    · subst hji
      rw [List.getD_eq_getElem?_getD, List.getElem?_set_self (by omega)]
      rfl
    · rw [List.getD_eq_getElem?_getD, List.getElem?_set_ne (by omega), ← List.getD_eq_getElem?_getD]
      exact hr j (by omega)
theorem fresh_sp {h0 : Base} {h : Heap} {l : Blks} {w f b m : Int} {K : Option Addr → Nat → Nat → Heap → Prop} (ho : Own h0 h l) (w0 : 0 ≤ w) (w1 : w ≤ 100000)
    (hk : ∀ a o h1, Own h0 h1 (o ++ l) → SlO gf 5 43 a w.toNat w.toNat (List.replicate w.toNat (blankG f b m)) o → K a w.toNat w.toNat h1) : vt_fresh w f b m K h := by
  unfold vt_fresh
  refine newB_o ho fun b5 h1 ho1 => mk_o ho1 w0 (by omega) (by omega) fun b8 h2 ho2 => ⟨w.toNat + 1, ?_⟩
  rw [show ((w.toNat : Nat) : Int) = w by omega]
  have hz : SlO gf 5 43 (some ⟨b8, 0, none⟩) w.toNat w.toNat (List.replicate w.toNat gl0) [(b8, (zeros (gf gl0) w.toNat).toArray, 43)] := zeros_slo gl0
  refine fresh_l0 (n := w.toNat) (l := l) (by omega) (by omega) w.toNat 0 h2 _ _ hz (ho2.perm (List.Perm.swap _ _ _)) (by omega) (by omega) (fun j hj => by omega) fun h' o' ho' hs' => hk _ o' h' ho' hs'
def sheetV (w h f b m : Int) : List (List Gl) := List.replicate h.toNat (List.replicate w.toNat (blankG f b m))
theorem RowsB.snoc {ks R bs} (hr : RowsB ks R bs) (k : Option Addr × Nat × Nat) (g : List Gl) (b : Blks) (hs : SlO gf 5 43 k.1 k.2.1 k.2.2 g b) : RowsB (ks ++ [k]) (R ++ [g]) (bs ++ [b]) := by
  obtain ⟨h1, h2, h3⟩ := hr
  refine ⟨by simp [h1], by simp [h2], fun i hi => ?_⟩
  rw [List.length_append, List.length_singleton] at hi
  by_cases hii : i < R.length
  · rw [List.getD_eq_getElem?_getD (l := ks ++ [k]), List.getElem?_append_left (by omega), List.getD_eq_getElem?_getD (l := R ++ [g]), List.getElem?_append_left hii, List.getD_eq_getElem?_getD (l := bs ++ [b]), List.getElem?_append_left (by omega), ← List.getD_eq_getElem?_getD, ← List.getD_eq_getElem?_getD, ← List.getD_eq_getElem?_getD]
    exact h3 i hii
  · obtain rfl : i = R.length := by omega
    rw [List.getD_eq_getElem?_getD (l := ks ++ [k]), List.getElem?_append_right (by omega), List.getD_eq_getElem?_getD (l := R ++ [g]), List.getElem?_append_right (by omega), List.getD_eq_getElem?_getD (l := bs ++ [b]), List.getElem?_append_right (by omega), h1, h2]
    simpa using hs
theorem RowsB.nil : RowsB [] [] [] := ⟨rfl, rfl, fun i hi => by simp at hi⟩
theorem sheet_l0 {h0 : Base} {b6 b9 b12 : Nat} {l : Blks} {w hh f b m : Int} {K0 : Nat → Nat → Heap → Prop} (w0 : 0 ≤ w) (w1 : w ≤ 100000) (hh1 : hh ≤ 100000) :
    ∀ (q : Nat) (i : Nat) (h : Heap) (a : Option Addr) (n c : Nat) (ks) (oh : Blks) (R : List (List Gl)) (bs : List Blks), SlO rf 1 72 a n c ks oh → RowsB ks R bs → n = i →
      Own h0 h ((b12, #[.slice a n c, .pointer none], 60) :: (b9, #[.slice none 0 0, .pointer none], 60) :: (b6, #[.int .i64 f, .int .i64 b, .int .i64 m], 41) :: (oh ++ (bs.flatten ++ l))) → (hh - i).toNat = q → (i : Int) ≤ hh ∨ q = 0 →
      R = List.replicate i (List.replicate w.toNat (blankG f b m)) →
      (∀ h' a' c' ks' oh' bs' n', Own h0 h' ((b12, #[.slice a' n' c', .pointer none], 60) :: (b9, #[.slice none 0 0, .pointer none], 60) :: (b6, #[.int .i64 f, .int .i64 b, .int .i64 m], 41) :: (oh' ++ (bs'.flatten ++ l))) → SlO rf 1 72 a' n' c' ks' oh' → RowsB ks' (List.replicate n' (List.replicate w.toNat (blankG f b m))) bs' → (n' : Int) = i + q → K0 b9 b12 h') →
      vt_sheetOf_l0 K0 (q + 1) w b6 b9 b12 hh i h := by
  intro q
  induction q with
  | zero =>
    intro i h a n c ks oh R bs hs hr hni ho hq hi hR hk
    unfold vt_sheetOf_l0
    rw [if_neg (by omega)]
    subst hR
    subst hni
    exact hk h a c ks oh bs n ho hs hr (by omega)
  | succ q ih =>
    intro i h a n c ks oh R bs hs hr hni ho hq hi hR hk
    unfold vt_sheetOf_l0
    rw [if_pos (by omega)]
    refine ldL0 ho rfl ?_
    refine ldI2 ho rfl ?_
    refine ldI2 ho rfl ?_
    refine ldI2 ho rfl ?_
    refine fresh_sp ho w0 w1 fun ra ro h1 ho1 hrow => ?_
    have ho1' : Own h0 h1 ((b12, #[.slice a n c, .pointer none], 60) :: (b9, #[.slice none 0 0, .pointer none], 60) :: (b6, #[.int .i64 f, .int .i64 b, .int .i64 m], 41) :: (oh ++ (bs.flatten ++ (ro ++ l)))) := ho1.perm (by (classical exact List.perm_iff_count.2 (fun x => by simp only [List.count_append, List.count_cons, List.count_nil]; omega)))
    refine ⟨ho1'.get0.cell 0 rfl, gap_o ho1' fun h2 ho2 => ⟨ho2.get0.cell 0 rfl, ?_⟩⟩
    have hl := hs.1
    refine SlO.app (f := rf) (sz := 1) (js := [(ra, w.toNat, w.toNat)]) (pre := (b12, #[.slice a n c, .pointer none], 60) :: (b9, #[.slice none 0 0, .pointer none], 60) :: [(b6, #[.int .i64 f, .int .i64 b, .int .i64 m], 41)]) (l := bs.flatten ++ (ro ++ l)) rf_len rfl hs (by simpa using ho2) (by simp only [List.length_singleton]; omega) (by simp only [List.length_singleton]; omega) fun a2 c2 o2 h3 ho3 hs3 => ?_
    have ho3 : Own h0 h3 ((b12, #[.slice a n c, .pointer none], 60) :: (b9, #[.slice none 0 0, .pointer none], 60) :: (b6, #[.int .i64 f, .int .i64 b, .int .i64 m], 41) :: (o2 ++ (bs.flatten ++ (ro ++ l)))) := by simpa using ho3
    refine st0 ho3 rfl fun h4 ho4 => ?_
    rw [wrap64 (by omega) (by omega), show (i : Int) + 1 = ((i + 1 : Nat) : Int) by omega]
    refine ih (i + 1) h4 a2 (n + 1) c2 (ks ++ [(ra, w.toNat, w.toNat)]) o2 (R ++ [List.replicate w.toNat (blankG f b m)]) (bs ++ [ro]) hs3 (hr.snoc _ _ _ hrow) (by omega) ?_ (by omega) (by omega) ?_ fun h' a' c' ks' oh' bs' n' p1 p2 p3 p4 => hk h' a' c' ks' oh' bs' n' p1 p2 p3 (by omega)
    · rw [List.flatten_append, List.flatten_singleton, List.append_assoc]
      exact ho4
    · rw [hR, List.replicate_succ']
theorem sheet_sp {h0 : Base} {h : Heap} {l : Blks} {w hh f b m : Int} {K : Option Addr → Nat → Nat → Option Addr → Heap → Prop} (ho : Own h0 h l) (w0 : 0 ≤ w) (w1 : w ≤ 100000) (h0' : 0 ≤ hh) (h1' : hh ≤ 100000)
    (hk : ∀ a n c o h1, Own h0 h1 (o ++ l) → RowsR a n c (sheetV w hh f b m) o → K a n c none h1) : vt_sheetOf w hh f b m K h := by
  unfold vt_sheetOf
  refine newB_o ho fun b6 h7 ho7 => newB_o ho7 fun b9 h10 ho10 => newB_o ho10 fun b12 h13 ho13 => ⟨hh.toNat + 1, ?_⟩
  refine sheet_l0 (l := l) w0 w1 h1' hh.toNat 0 h13 none 0 0 [] [] [] [] SlO.nil RowsB.nil rfl (by simpa using ho13) (by omega) (by omega) rfl fun h' a' c' ks' oh' bs' n' p1 p2 p3 p4 => ?_
  refine ldL0 p1 rfl ?_
  refine ldP0 p1 rfl ?_
  refine st1 p1 rfl fun h28 ho28 => ?_
  have ho29 := ho28.tail
  refine ldL0 ho29 rfl ?_
  refine ldP0 ho29 rfl ?_
  have en : n' = hh.toNat := by omega
  subst en
  refine hk a' _ c' (oh' ++ bs'.flatten) h28 ?_ ⟨ks', oh', bs', rfl, p2, p3⟩
  rw [List.append_assoc]
  exact ho29.tail.tail
end Go.Proofs.YthjdnhhifjpidaaDoor.M
