import Derived.Test.YthjdnhhifjpidaaDoorU20
set_option linter.unusedVariables false
set_option linter.unusedSimpArgs false
set_option maxRecDepth 100000
namespace Go.Proofs.YthjdnhhifjpidaaDoor.M
open Go Go.Hp

theorem w_dbl (m : Nat) (hm : m < 100) : IntKind.wrap .u32 ((m : Int) * 2) = ((2 * m : Nat) : Int) := by rw [wrapu32 (by omega) (by omega)]; omega
theorem w_dbl1 (m : Nat) (hm : m < 100) : IntKind.wrap .u32 (((2 * m : Nat) : Int) + 1) = ((2 * m + 1 : Nat) : Int) := by rw [wrapu32 (by omega) (by omega)]; omega
theorem w_nat (m : Nat) (hm : m < 10000) : IntKind.wrap .u32 (m : Int) = (m : Int) := wrapu32 (by omega) (by omega)
theorem tm100 (u : Nat) : Int.tmod (u : Int) 100 = ((u % 100 : Nat) : Int) := rfl
theorem td100 (u : Nat) : Int.tdiv (u : Int) 100 = ((u / 100 : Nat) : Int) := rfl
theorem tm10000 (u : Nat) : Int.tmod (u : Int) 10000 = ((u % 10000 : Nat) : Int) := rfl
theorem td10000 (u : Nat) : Int.tdiv (u : Int) 10000 = ((u / 10000 : Nat) : Int) := rfl
abbrev z24 : Array Value := #[.int .u8 0, .int .u8 0, .int .u8 0, .int .u8 0, .int .u8 0, .int .u8 0, .int .u8 0, .int .u8 0, .int .u8 0, .int .u8 0, .int .u8 0, .int .u8 0, .int .u8 0, .int .u8 0, .int .u8 0, .int .u8 0, .int .u8 0, .int .u8 0, .int .u8 0, .int .u8 0, .int .u8 0, .int .u8 0, .int .u8 0, .int .u8 0]
theorem j1_body {h0 : Base} {h : Heap} {b : Nat} {cs : Array Value} {l : Blks} {n : Nat} {y84 : Int} {u : Nat} {K : Heap → Prop} (ho : Own h0 h ((b, cs, 120) :: l)) (hcs : cs.size = 24) (hu : u < 1024) (i : Nat) (hi : y84 = (i : Int) + 2) (hin : i + 2 ≤ n) (hn : n ≤ 20)
    (hk : ∀ h1, Own h0 h1 ((b, setL (setL cs (i + 2) [.int .u8 (48 + ((u % 10 : Nat) : Int))]) (i + 1) [.int .u8 (48 + ((u / 10 % 10 : Nat) : Int))], 120) :: l) → internal_strconv_formatBase10_j2 K (some ⟨b, 1, none⟩) n 23 (i : Int) ((u / 100 : Nat) : Int) h1) :
    internal_strconv_formatBase10_j1 K (some ⟨b, 1, none⟩) n 23 y84 (u : Int) h := by
  subst hi
  have hm : u % 100 < 100 := Nat.mod_lt _ (by decide)
  obtain ⟨t1, t2⟩ := t200_all (u % 100) hm
  unfold internal_strconv_formatBase10_j1
  rw [if_pos (by omega)]
  rw [tm100, w_dbl _ hm, w_dbl1 _ hm, td100, w_nat (u / 100) (by omega)]
  have hz := t200_size
  refine ⟨by omega, lt_of_lt_of_eq (b := (200 : Int)) (by omega) hz.symm, by omega, lt_of_lt_of_eq (b := (200 : Int)) (by omega) hz.symm, nz_i ?_⟩
  rw [wrap64 (x := (i : Int) + 2 - 1) (by omega) (by omega), wrap64 (x := (i : Int) + 2 - 2) (by omega) (by omega)]
  refine ⟨by omega, by omega, ?_⟩
  rw [show ((i : Int) + 2 - 1).toNat = i + 1 by omega, show ((i : Int) + 2 - 2).toNat = i by omega, add0, add0, show 1 + (i + 1) * 1 = i + 2 by omega, show 1 + i * 1 = i + 1 by omega]
  refine st0 ho (Nat.ble_eq_true_of_le (by rw [hcs]; simp; omega)) fun h1 ho1 => ⟨by omega, by omega, ?_⟩
  refine st0 ho1 (Nat.ble_eq_true_of_le (by simp [setL, hcs]; omega)) fun h2 ho2 => ?_
  have e1 : (48 : Int) + ((u % 100 % 10 : Nat) : Int) = 48 + ((u % 10 : Nat) : Int) := by rw [Nat.mod_mod_of_dvd u (by decide)]
  have e2 : (48 : Int) + ((u % 100 / 10 : Nat) : Int) = 48 + ((u / 10 % 10 : Nat) : Int) := by omega
  have ho3 : Own h0 h2 ((b, setL (setL cs (i + 2) [.int .u8 (48 + ((u % 10 : Nat) : Int))]) (i + 1) [.int .u8 (48 + ((u / 10 % 10 : Nat) : Int))], 120) :: l) := by
    rw [← e1, ← e2, ← t1, ← t2]
    exact ho2
  rw [show (i : Int) + 2 - 2 = (i : Int) by omega]
  exact hk h2 ho3
/-- The 24 places, the digits laid in from the second on. -/
def fbC (ds : List Int) : Array Value := (.int .u8 0 :: (ds.map (fun d => Value.int .u8 d) ++ List.replicate (23 - ds.length) (.int .u8 0))).toArray
theorem fb10 {h0 : Base} {h : Heap} {b : Nat} {l : Blks} {u : Nat} {K : Heap → Prop} (ho : Own h0 h ((b, z24, 120) :: l)) (hu : u < 1024) (hu1 : 1 ≤ u)
    (hk : ∀ h1, Own h0 h1 ((b, fbC (digs u), 120) :: l) → K h1) : internal_strconv_formatBase10 (some ⟨b, 1, none⟩) (ndV u) 23 (u : Int) K h := by
  unfold internal_strconv_formatBase10
  refine ⟨1, ?_⟩
  unfold internal_strconv_formatBase10_l0
  have hw : IntKind.wrap .u32 (u : Int) = (u : Int) := wrapu32 (by omega) (by omega)
  have h8 : ¬ (8 : Int) ≤ (ndV u : Int) := by unfold ndV; split <;> (try split) <;> (try split) <;> omega
  rw [if_neg h8]
  unfold digs at hk
  unfold ndV
  by_cases c1 : u < 10
  · simp only [if_pos c1] at hk ⊢
    rw [if_neg (by omega), hw]
    unfold internal_strconv_formatBase10_j1
    rw [if_neg (by omega)]
    unfold internal_strconv_formatBase10_j2
    rw [if_pos (by omega)]
    refine nz_i ⟨by omega, by omega, ?_⟩
    rw [wrapu32 (x := 48 + (u : Int)) (by omega) (by omega), wrapu8 (x := 48 + (u : Int)) (by omega) (by omega)]
    rw [add0]
    refine st0 ho rfl fun h1 ho1 => hk h1 (own_cs ho1 (by kernel_rfl))
  simp only [if_neg c1] at hk ⊢
  by_cases c2 : u < 100
  · simp only [if_pos c2] at hk ⊢
    rw [if_neg (by omega), hw]
    refine j1_body (n := 2) ho rfl hu 0 rfl (by omega) (by omega) fun h1 ho1 => ?_
    unfold internal_strconv_formatBase10_j2
    rw [if_neg (by omega)]
    rw [show u / 10 % 10 = u / 10 by omega] at ho1
    exact hk h1 (own_cs ho1 (by kernel_rfl))
  simp only [if_neg c2] at hk ⊢
  by_cases c3 : u < 1000
  · simp only [if_pos c3] at hk ⊢
    rw [if_neg (by omega), hw]
    refine j1_body (n := 3) ho rfl hu 1 rfl (by omega) (by omega) fun h1 ho1 => ?_
    have ho1 := own_cs (c' := (.int .u8 0 :: .int .u8 0 :: .int .u8 (48 + ((u / 10 % 10 : Nat) : Int)) :: .int .u8 (48 + ((u % 10 : Nat) : Int)) :: List.replicate 20 (.int .u8 0)).toArray) ho1 (by kernel_rfl)
    unfold internal_strconv_formatBase10_j2
    rw [if_pos (by omega)]
    refine nz_i ⟨by omega, by omega, ?_⟩
    rw [wrapu32 (x := 48 + ((u / 100 : Nat) : Int)) (by omega) (by omega), wrapu8 (x := 48 + ((u / 100 : Nat) : Int)) (by omega) (by omega)]
    rw [add0]
    refine st0 ho1 rfl fun h1 ho1 => hk h1 (own_cs ho1 (by kernel_rfl))
  simp only [if_neg c3] at hk ⊢
  rw [if_pos (by omega), hw]
  have hm : u % 10000 % 100 < 100 := Nat.mod_lt _ (by decide)
  have hm2 : u % 10000 / 100 < 100 := by omega
  obtain ⟨t1, t2⟩ := t200_all (u % 10000 % 100) hm
  obtain ⟨t3, t4⟩ := t200_all (u % 10000 / 100) hm2
  have hz := t200_size
  rw [tm10000, tm100, w_dbl _ hm, w_dbl1 _ hm, td100, w_nat (u % 10000 / 100) (by omega), w_dbl _ hm2, w_dbl1 _ hm2, td10000, w_nat (u / 10000) (by omega)]
  refine ⟨by omega, lt_of_lt_of_eq (b := (200 : Int)) (by omega) hz.symm, by omega, lt_of_lt_of_eq (b := (200 : Int)) (by omega) hz.symm, nz_i ?_⟩
  refine ⟨by decide, by decide, ?_⟩
  rw [show (⟨b, 1, none⟩ : Addr).add ((IntKind.wrap .i64 (((4 : Nat) : Int) - 1)).toNat * 1) = ⟨b, 4, none⟩ from by rw [add0]; rfl]
  refine st0 ho rfl fun h1 ho1 => ⟨by decide, by decide, ?_⟩
  rw [show (⟨b, 1, none⟩ : Addr).add ((IntKind.wrap .i64 (((4 : Nat) : Int) - 2)).toNat * 1) = ⟨b, 3, none⟩ from by rw [add0]; rfl]
  refine st0 ho1 rfl fun h2 ho2 => ⟨by omega, lt_of_lt_of_eq (b := (200 : Int)) (by omega) hz.symm, by omega, lt_of_lt_of_eq (b := (200 : Int)) (by omega) hz.symm, by decide, by decide, ?_⟩
  rw [show (⟨b, 1, none⟩ : Addr).add ((IntKind.wrap .i64 (((4 : Nat) : Int) - 3)).toNat * 1) = ⟨b, 2, none⟩ from by rw [add0]; rfl]
  refine st0 ho2 rfl fun h3 ho3 => ⟨by decide, by decide, ?_⟩
  rw [show (⟨b, 1, none⟩ : Addr).add ((IntKind.wrap .i64 (((4 : Nat) : Int) - 4)).toNat * 1) = ⟨b, 1, none⟩ from by rw [add0]; rfl]
  refine st0 ho3 rfl fun h4 ho4 => ?_
  unfold internal_strconv_formatBase10_j1
  rw [if_neg (by decide)]
  unfold internal_strconv_formatBase10_j2
  rw [if_neg (by decide)]
  refine hk h4 (own_cs ho4 ?_)
  rw [t1, t2, t3, t4, show u % 10000 % 100 % 10 = u % 10 by omega, show u % 10000 % 100 / 10 = u / 10 % 10 by omega, show u % 10000 / 100 % 10 = u / 100 % 10 by omega, show u % 10000 / 100 / 10 = u / 1000 by omega]
  kernel_rfl
theorem digs_len (u : Nat) : (digs u).length = ndV u := by
  unfold digs ndV
  split
  · rfl
  · split
    · rfl
    · split <;> rfl
theorem ndV_le (u : Nat) : 1 ≤ ndV u ∧ ndV u ≤ 4 := by
  unfold ndV
  split
  · omega
  · split
    · omega
    · split <;> omega
theorem fbC_at (ds : List Int) (i : Nat) (hi : i < ds.length) : (fbC ds)[1 + i]? = some (.int .u8 (ds.getD i 0)) := by
  unfold fbC
  rw [← Array.getElem?_toList, Nat.add_comm, List.getElem?_cons_succ, List.getElem?_append_left (by simpa using hi), List.getElem?_map, List.getElem?_eq_getElem hi, List.getD_eq_getElem?_getD, List.getElem?_eq_getElem hi]
  rfl
theorem formatInt_j0 {h0 : Base} {h : Heap} {b : Nat} {l : Blks} {u : Nat} {a : Int} {K : ByteArray → Heap → Prop} (ht : Tabs h0.h) (ho : Own h0 h ((b, z24, 120) :: l)) (hu : u < 1024) (hu1 : 1 ≤ u)
    (hk1 : a < 0 → ∀ h1, Ext h0.h h1 → K (bytesOf (45 :: digs u)) h1) (hk2 : ¬ a < 0 → ∀ h1, Ext h0.h h1 → K (bytesOf (digs u)) h1) : internal_strconv_FormatInt_j0 K a b (u : Int) h := by
  unfold internal_strconv_FormatInt_j0
  refine nd_sp (ht.ext ho.ext) hu hu1 fun h1 he1 => ?_
  have ho1 := ho.gap he1
  have hd := ndV_le u
  have hdl := digs_len u
  rw [wrap64 (x := 1 + (ndV u : Int)) (by omega) (by omega)]
  refine ⟨by omega, by omega, by omega, ?_⟩
  rw [show (1 + (ndV u : Int)).toNat - (1 : Int).toNat = ndV u by show (1 + (ndV u : Int)).toNat - 1 = _; omega]
  show internal_strconv_formatBase10 (some ⟨b, 1, none⟩) (ndV u) 23 (u : Int) _ h1
  refine fb10 ho1 hu hu1 fun h2 ho2 => ?_
  by_cases ha : a < 0
  · rw [if_pos ha]
    refine st0 ho2 (Nat.ble_eq_true_of_le (by simp [fbC])) fun h3 ho3 => ⟨by omega, by omega, ?_⟩
    refine BAt.byts (g := 45 :: digs u) ⟨by rw [List.length_cons, hdl]; omega, fun i hi => ⟨_, rfl, ?_⟩⟩ (hk1 ha h3 ho3.ext)
    rw [add0, Nat.zero_add, Nat.mul_one]
    refine ho3.get0.cell i ?_
    cases i with
    | zero => rfl
    | succ i =>
      have := fbC_at (digs u) i (by omega)
      show ((fbC (digs u)).setIfInBounds 0 (.int .u8 45))[i + 1]? = _
      rw [Array.getElem?_setIfInBounds_ne (by omega), show i + 1 = 1 + i by omega, this, show 1 + i = i + 1 by omega]
      rfl
  · rw [if_neg ha]
    refine ⟨by omega, by omega, by omega, ?_⟩
    refine BAt.byts (g := digs u) ⟨by rw [hdl], fun i hi => ⟨⟨b, 1, none⟩, rfl, ?_⟩⟩ (hk2 ha h2 ho2.ext)
    rw [add0, Nat.mul_one]
    refine ho2.get0.cell (1 + i) (fbC_at (digs u) i ?_)
    have : i < ndV u := hi
    omega
theorem itoa_sp {h : Heap} {a : Int} {K : ByteArray → Heap → Prop} (ht : Tabs h) (a0 : -1000 ≤ a) (a1 : a ≤ 1010) (hk : ∀ h1, Ext h h1 → K (itoaV a) h1) : strconv_Itoa a K h := by
  unfold strconv_Itoa internal_strconv_Itoa internal_strconv_FormatInt
  unfold itoaV at hk
  rw [if_pos rfl]
  by_cases h1 : 0 ≤ a ∧ a < 100
  · rw [if_pos (by simpa using h1)]
    rw [if_neg (by omega)] at hk
    have := small_all a.toNat (by omega)
    rw [show ((a.toNat : Nat) : Int) = a by omega] at this
    exact ex_i this fun h2 he2 => hk h2 he2
  · rw [if_neg (by simpa using h1)]
    refine newB_o (Own.init h) fun b h2 ho2 => ?_
    by_cases h3 : a < 0
    · rw [if_pos h3] at hk ⊢
      have e : IntKind.wrap .u64 (0 - IntKind.wrap .u64 a) = (((-a).toNat : Nat) : Int) := by
        have e1 : IntKind.wrap .u64 a = a + 18446744073709551616 := by
          unfold IntKind.wrap
          show a % 18446744073709551616 = _
          omega
        rw [e1]
        unfold IntKind.wrap
        show (0 - (a + 18446744073709551616)) % 18446744073709551616 = _
        omega
      rw [e]
      exact formatInt_j0 ht ho2 (by omega) (by omega) (fun _ h1 he1 => hk h1 he1) (fun hh => absurd h3 hh)
    · rw [if_neg h3] at hk ⊢
      have e : IntKind.wrap .u64 a = ((a.toNat : Nat) : Int) := by
        rw [wrapu64 (by omega) (by omega)]
        omega
      rw [e]
      exact formatInt_j0 ht ho2 (by omega) (by omega) (fun hh => absurd hh h3) (fun _ h1 he1 => hk h1 he1)
theorem itoaV_size (a : Int) : (itoaV a).size ≤ 5 := by
  unfold itoaV
  split
  · have := ndV_le (-a).toNat
    rw [bytesOf_size, List.length_cons, digs_len]
    omega
  · have := ndV_le a.toNat
    rw [bytesOf_size, digs_len]
    omega
end Go.Proofs.YthjdnhhifjpidaaDoor.M
