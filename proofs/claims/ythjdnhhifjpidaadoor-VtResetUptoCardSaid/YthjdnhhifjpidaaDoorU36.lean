import Derived.Test.YthjdnhhifjpidaaDoorU35
set_option linter.unusedVariables false
set_option linter.unusedSimpArgs false
set_option maxRecDepth 100000
namespace Go.Proofs.YthjdnhhifjpidaaDoor.M
open Go Go.Hp

/-! ### The document's screen is made: memory grows -/
theorem rrow_l0 {h0 : Base} {w f b m : Int} {b5 : Nat} {X : Blks} {K0 : Option Addr → Nat → Nat → Heap → Prop} (w1 : w ≤ 1000) :
    ∀ (q : Nat) (i : Nat) (h : Heap) (a : Option Addr) (n c : Nat) (ks : List Gl) (o : Blks), Own h0 h ([(b5, #[.int .i64 f, .int .i64 b, .int .i64 m], 41)] ++ (o ++ X)) → SlO gf 5 43 a n c ks o → n = i → (w - i).toNat = q → 
      (∀ a' n' c' o' h1, Own h0 h1 (o' ++ X) → K0 a' n' c' h1) → ref19_row_l0 K0 (q + 1) w b5 a n c i h := by
  intro q
  induction q with
  | zero =>
    intro i h a n c ks o ho hs hn hq hk
    unfold ref19_row_l0
    rw [if_neg (by omega)]
    exact hk a n c o h (Own.tail ho)
  | succ q ih =>
    intro i h a n c ks o ho hs hn hq hk
    unfold ref19_row_l0
    rw [if_pos (by omega)]
    have ho' : Own h0 h ((b5, #[.int .i64 f, .int .i64 b, .int .i64 m], 41) :: (o ++ X)) := ho
    refine ldI0 ho' rfl ?_
    refine ldI0 ho' rfl ?_
    refine ldI0 ho' rfl ?_
    refine gap_o ho fun h1 ho1 => ?_
    refine SlO.app (f := gf) (sz := 5) (js := [ref19_blank f b m]) gf_len rfl hs ho1 (by simp only [List.length_singleton]; omega) (by simp only [List.length_singleton]; omega) fun a' c' o' h' ho2 hs2 => ?_
    rw [wrap64 (by omega) (by omega), show (i : Int) + 1 = ((i + 1 : Nat) : Int) by omega]
    exact ih (i + 1) h' a' (n + 1) c' _ o' ho2 hs2 (by omega) (by omega) hk
theorem rrow_sp {h0 : Base} {h : Heap} {w f b m : Int} {X : Blks} {K : Option Addr → Nat → Nat → Heap → Prop} (ho : Own h0 h X) (w1 : w ≤ 1000) (hk : ∀ a n c o h1, Own h0 h1 (o ++ X) → K a n c h1) : ref19_row w f b m K h := by
  unfold ref19_row
  refine newB_o ho fun b5 h1 ho1 => ⟨(w - 0).toNat + 1, ?_⟩
  exact rrow_l0 w1 (w - 0).toNat 0 h1 none 0 0 [] [] ho1 SlO.nil rfl rfl hk
theorem rrows_l0 {h0 : Base} {w hh f b m : Int} {b6 : Nat} {X : Blks} {K0 : Option Addr → Nat → Nat → Heap → Prop} (w1 : w ≤ 1000) (h1' : hh ≤ 1000) :
    ∀ (q : Nat) (i : Nat) (h : Heap) (a : Option Addr) (n c : Nat) (ks) (o : Blks), Own h0 h ([(b6, #[.int .i64 f, .int .i64 b, .int .i64 m], 41)] ++ (o ++ X)) → SlO rf 1 33 a n c ks o → n = i → (hh - i).toNat = q →
      (∀ a' n' c' h1, Own h0 h1 X → K0 a' n' c' h1) → ref19_rows_l0 K0 (q + 1) w hh b6 a n c i h := by
  intro q
  induction q with
  | zero =>
    intro i h a n c ks o ho hs hn hq hk
    unfold ref19_rows_l0
    rw [if_neg (by omega)]
    exact hk a n c h ((Own.tail ho).sub (List.sublist_append_right _ _))
  | succ q ih =>
    intro i h a n c ks o ho hs hn hq hk
    unfold ref19_rows_l0
    rw [if_pos (by omega)]
    have ho' : Own h0 h ((b6, #[.int .i64 f, .int .i64 b, .int .i64 m], 41) :: (o ++ X)) := ho
    refine ldI0 ho' rfl ?_
    refine ldI0 ho' rfl ?_
    refine ldI0 ho' rfl ?_
    refine rrow_sp ho w1 fun a1 n1 c1 o1 h2 ho2 => ?_
    have ho2 := ho2.sub (List.sublist_append_right o1 _)
    refine gap_o ho2 fun h1 ho1 => ?_
    refine SlO.app (f := rf) (sz := 1) (js := [(a1, n1, c1)]) rf_len rfl hs ho1 (by simp only [List.length_singleton]; omega) (by simp only [List.length_singleton]; omega) fun a' c' o' h' ho2 hs2 => ?_
    rw [wrap64 (by omega) (by omega), show (i : Int) + 1 = ((i + 1 : Nat) : Int) by omega]
    exact ih (i + 1) h' a' (n + 1) c' _ o' ho2 hs2 (by omega) (by omega) hk
theorem rrows_sp {h0 : Base} {h : Heap} {w hh f b m : Int} {X : Blks} {K : Option Addr → Nat → Nat → Heap → Prop} (ho : Own h0 h X) (w1 : w ≤ 1000) (h1' : hh ≤ 1000) (hk : ∀ a n c h1, Own h0 h1 X → K a n c h1) : ref19_rows w hh f b m K h := by
  unfold ref19_rows
  refine newB_o ho fun b5 h1 ho1 => ⟨(hh - 0).toNat + 1, ?_⟩
  exact rrows_l0 w1 h1' (hh - 0).toNat 0 h1 none 0 0 [] [] ho1 SlO.nil rfl rfl hk
theorem rtabs_l0 {h0 : Base} {w : Int} {X : Blks} {K0 : Option Addr → Nat → Nat → Heap → Prop} (w1 : w ≤ 1000) :
    ∀ (q : Nat) (i : Nat) (h : Heap) (a : Option Addr) (n c : Nat) (ks) (o : Blks), Own h0 h ([] ++ (o ++ X)) → SlO tf 1 4 a n c ks o → n = i → (w - i).toNat = q →
      (∀ a' n' c' h1, Own h0 h1 X → K0 a' n' c' h1) → ref19_tabs_l0 K0 (q + 1) w a n c i h := by
  intro q
  induction q with
  | zero =>
    intro i h a n c ks o ho hs hn hq hk
    unfold ref19_tabs_l0
    rw [if_neg (by omega)]
    exact hk a n c h (Own.sub (l := o ++ X) ho (List.sublist_append_right _ _))
  | succ q ih =>
    intro i h a n c ks o ho hs hn hq hk
    unfold ref19_tabs_l0
    rw [if_pos (by omega)]
    refine gap_o ho fun h1 ho1 => ?_
    refine SlO.app (f := tf) (sz := 1) (js := [((decide (0 < (i : Int))) && (decide ((Int.tmod (i : Int) 8) = 0)))]) tf_len rfl hs ho1 (by simp only [List.length_singleton]; omega) (by simp only [List.length_singleton]; omega) fun a' c' o' h' ho2 hs2 => ?_
    rw [wrap64 (by omega) (by omega), show (i : Int) + 1 = ((i + 1 : Nat) : Int) by omega]
    exact ih (i + 1) h' a' (n + 1) c' _ o' ho2 hs2 (by omega) (by omega) hk
theorem rtabs_sp {h0 : Base} {h : Heap} {w : Int} {X : Blks} {K : Option Addr → Nat → Nat → Heap → Prop} (ho : Own h0 h X) (w1 : w ≤ 1000) (hk : ∀ a n c h1, Own h0 h1 X → K a n c h1) : ref19_tabs w K h := by
  unfold ref19_tabs
  exact ⟨(w - 0).toNat + 1, rtabs_l0 w1 (w - 0).toNat 0 h none 0 0 [] [] ho SlO.nil rfl rfl hk⟩
abbrev rzC (w hh m : Int) : Array Value := #[.int .i64 w, .int .i64 hh, .int .i64 m, .slice none 0 0, .slice none 0 0, .bool false, .slice none 0 0, .int .i64 0, .int .i64 0, .bool false, .int .i64 0, .int .i64 0, .int .i64 0, .int .i64 0, .int .i64 0, .bool false, .bool false, .bool false, .bool false, .bool false, .bool false, .bool false, .slice none 0 0, .bool false, .bool false, .int .i64 0, .bool false, .int .i64 0, .int .i64 0, .int .i64 0, .int .i64 0, .int .i64 0, .bool false, .bool false, .bool false, .int .i64 0, .bool false, .bool false, .int .i64 0, .int .i64 0, .int .i64 0, .int .i64 0, .int .i64 0, .bool false, .bool false, .bool false, .int .i64 0, .bool false, .string (⟨#[]⟩ : ByteArray), .string (⟨#[]⟩ : ByteArray), .int .i64 0, .int .i32 0, .int .i64 0, .string (⟨#[]⟩ : ByteArray), .bool false]
abbrev rfC (w hh m : Int) (ra : Option Addr) (rn rc : Nat) (ta : Option Addr) (tn tc : Nat) : Array Value := #[.int .i64 w, .int .i64 hh, .int .i64 m, .slice ra rn rc, .slice none 0 0, .bool false, .slice none 0 0, .int .i64 0, .int .i64 0, .bool false, .int .i64 0, .int .i64 0, .int .i64 0, .int .i64 0, .int .i64 (hh - 1), .bool false, .bool false, .bool false, .bool true, .bool false, .bool false, .bool false, .slice ta tn tc, .bool false, .bool false, .int .i64 0, .bool false, .int .i64 0, .int .i64 0, .int .i64 0, .int .i64 0, .int .i64 0, .bool false, .bool false, .bool false, .int .i64 0, .bool false, .bool false, .int .i64 0, .int .i64 0, .int .i64 0, .int .i64 0, .int .i64 0, .bool false, .bool false, .bool false, .int .i64 0, .bool false, .string (⟨#[]⟩ : ByteArray), .string (⟨#[]⟩ : ByteArray), .int .i64 0, .int .i32 0, .int .i64 0, .string (⟨#[]⟩ : ByteArray), .bool false]
theorem rreset_sp {h0 : Base} {h : Heap} {w hh m : Int} {s : Nat} {X : Blks} {K : Heap → Prop} (ho : Own h0 h ((s, rzC w hh m, 79) :: X)) (w1 : w ≤ 1000) (h0' : 1 ≤ hh) (h1' : hh ≤ 1000) (hk : ∀ h1, Own h0 h1 X → K h1) : ref19_Screen_reset (some ⟨s, 0, none⟩) K h := by
  unfold ref19_Screen_reset
  refine nz_i ?_
  simp only [add0, Nat.zero_add]
  refine ldI0 ho rfl ?_
  refine ldI0 ho rfl ?_
  refine ldI0 ho rfl ?_
  refine ldL0 ho rfl ?_
  refine ldS0 ho rfl ?_
  refine ldI0 ho rfl ?_
  refine newB_o ho fun b h1 ho1 => ?_
  have hb := ho1.get1
  refine ⟨⟨hb.cell 50 rfl, hb.cell 49 rfl, hb.cell 6 rfl, hb.cell 2 rfl, hb.cell 1 rfl, hb.cell 0 rfl⟩, ?_⟩
  refine st0 ho1 rfl fun h2 ho2 => ?_
  have ho2 := own_cs (c' := rzC w hh m) ho2 (by kernel_rfl)
  refine ldI1 ho2 rfl ?_
  refine ldI1 ho2 rfl ?_
  refine rrows_sp ho2 w1 h1' fun ra rn rc h3 ho3 => ?_
  refine st0 ho3 rfl fun h4 ho4 => ?_
  refine ldI1 ho4 rfl ?_
  refine rtabs_sp ho4 w1 fun ta tn tc h5 ho5 => ?_
  refine st0 ho5 rfl fun h6 ho6 => ?_
  refine ldI1 ho6 rfl ?_
  rw [wrap64 (x := hh - 1) (by omega) (by omega)]
  refine st0 ho6 rfl fun h7 ho7 => ?_
  refine st0 ho7 rfl fun h8 ho8 => ?_
  have ho9 := own_cs (c' := rfC w hh m ra rn rc ta tn tc) ho8 (by kernel_rfl)
  refine ldI0 ho9 rfl ?_
  refine ldI0 ho9 rfl ?_
  refine ldI0 ho9 rfl ?_
  refine ldL0 ho9 rfl ?_
  refine ldL0 ho9 rfl ?_
  refine ldB0 ho9 rfl ?_
  refine ldL0 ho9 rfl ?_
  refine ldI0 ho9 rfl ?_
  refine ldI0 ho9 rfl ?_
  refine ldB0 ho9 rfl ?_
  refine ldI0 ho9 rfl ?_
  refine ldI0 ho9 rfl ?_
  refine ldI0 ho9 rfl ?_
  refine ldI0 ho9 rfl ?_
  refine ldI0 ho9 rfl ?_
  refine ldB0 ho9 rfl ?_
  refine ldB0 ho9 rfl ?_
  refine ldB0 ho9 rfl ?_
  refine ldB0 ho9 rfl ?_
  refine ldB0 ho9 rfl ?_
  refine ldB0 ho9 rfl ?_
  refine ldB0 ho9 rfl ?_
  refine ldL0 ho9 rfl ?_
  refine ldB0 ho9 rfl ?_
  refine ldB0 ho9 rfl ?_
  refine ldI0 ho9 rfl ?_
  refine ldB0 ho9 rfl ?_
  refine ldI0 ho9 rfl ?_
  refine ldI0 ho9 rfl ?_
  refine ldI0 ho9 rfl ?_
  refine ldI0 ho9 rfl ?_
  refine ldI0 ho9 rfl ?_
  refine ldB0 ho9 rfl ?_
  refine ldB0 ho9 rfl ?_
  refine ldB0 ho9 rfl ?_
  refine ldI0 ho9 rfl ?_
  refine ldB0 ho9 rfl ?_
  refine ldB0 ho9 rfl ?_
  refine ldI0 ho9 rfl ?_
  refine ldI0 ho9 rfl ?_
  refine ldI0 ho9 rfl ?_
  refine ldI0 ho9 rfl ?_
  refine ldI0 ho9 rfl ?_
  refine ldB0 ho9 rfl ?_
  refine ldB0 ho9 rfl ?_
  refine ldB0 ho9 rfl ?_
  refine ldI0 ho9 rfl ?_
  refine ldB0 ho9 rfl ?_
  refine ldS0 ho9 rfl ?_
  refine ldS0 ho9 rfl ?_
  refine ldI0 ho9 rfl ?_
  refine ldI0 ho9 rfl ?_
  refine ldI0 ho9 rfl ?_
  refine ldS0 ho9 rfl ?_
  refine ldB0 ho9 rfl ?_
  refine st1 ho9 rfl fun h9 ho10 => ?_
  exact hk h9 ho10.tail.tail
theorem RNew_sp {h0 : Base} {h : Heap} {X : Blks} {w hh most : Int} {K : Option Addr → Int → Heap → Prop} (ho : Own h0 h X) (hb : ∀ e, badV w hh most = some e → K none e h)
    (hk : badV w hh most = none → ∀ b h1, Own h0 h1 X → K (some ⟨b, 0, none⟩) 0 h1) : ref19_New w hh most K h := by
  unfold ref19_New
  unfold badV at hb hk
  by_cases h1 : 1 ≤ w ∧ w ≤ 1000 ∧ 1 ≤ hh ∧ hh ≤ 1000
  case neg =>
    rw [if_pos (by simp; omega)]
    exact hb 41 (if_neg h1)
  rw [if_neg (by simp; omega)]
  simp only [if_pos h1] at hb hk
  by_cases h2 : 0 ≤ most ∧ most ≤ 2000
  case neg =>
    rw [if_pos (by simp; omega)]
    exact hb 1 (if_neg h2)
  rw [if_neg (by simp; omega)]
  refine newB_o ho fun b h3 ho3 => ?_
  exact rreset_sp (m := most) ho3 h1.2.1 h1.2.2.1 h1.2.2.2 fun h4 ho4 => hk (if_pos h2) b h4 ho4
end Go.Proofs.YthjdnhhifjpidaaDoor.M
