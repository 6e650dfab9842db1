import Derived.Test.YtkbpnmgkdodcmaaDoorK4
import Derived.Test.YtkbpnmgkdodcmaaDoorHpB
set_option linter.unusedVariables false
set_option linter.unusedSimpArgs false
set_option maxRecDepth 100000
namespace Go.Proofs.YtkbpnmgkdodcmaaDoor.M
open Go Go.Hp

theorem wrap64 {x : Int} (h0 : -9223372036854775808 ≤ x) (h1 : x ≤ 9223372036854775807) : IntKind.wrap .i64 x = x := by
  rw [IntKind.wrap_i64]; omega
theorem byteAt_nonneg (s : ByteArray) (i : Int) : 0 ≤ byteAt s i := by unfold byteAt; omega
theorem byteAt_lt (s : ByteArray) (i : Int) : byteAt s i < 256 := by
  unfold byteAt
  have := (s.data.getD i.toNat 0).toNat_lt
  omega
theorem wbyte (s : ByteArray) (i : Int) : IntKind.wrap .i64 (byteAt s i) = byteAt s i := wrap64 (by have := byteAt_nonneg s i; omega) (by have := byteAt_lt s i; omega)

abbrev TabH (h : Heap) : Prop := cellsAt h ⟨0, 0, none⟩ 0 (tab0.flatMap tab0f)

theorem byteAt_ext (s : ByteArray) (a b : Nat) (i : Int) (hi : 0 ≤ i) (hb : b ≤ s.size) (h : a + i.toNat < b) : byteAt (s.extract a b) i = byteAt s (a + i) := by
  unfold byteAt
  congr 2
  rw [ByteArray.data_extract, Array.getD_eq_getD_getElem?, Array.getD_eq_getD_getElem?, Array.getElem?_extract]
  have : i.toNat < min b s.data.size - a := by
    have : s.data.size = s.size := rfl
    omega
  rw [if_pos this, show (a + i : Int).toNat = a + i.toNat by omega]

/-! ### A character -/
def follV (b0 i b : Int) : Bool :=
  if i = 1 then
    if b0 = 224 then decide (160 ≤ b) && decide (b ≤ 191)
    else if b0 = 237 then decide (128 ≤ b) && decide (b ≤ 159)
    else if b0 = 240 then decide (144 ≤ b) && decide (b ≤ 191)
    else if b0 = 244 then decide (128 ≤ b) && decide (b ≤ 143)
    else decide (128 ≤ b) && decide (b ≤ 191)
  else decide (128 ≤ b) && decide (b ≤ 191)
theorem follows_sp (s : ByteArray) (i b : Int) (h1 : 1 ≤ i) (h2 : i ≤ s.size) : keys_follows (s.extract 0 i.toNat) b = some (follV (byteAt s 0) i b) := by
  have hsz : ((s.extract 0 i.toNat).size : Int) = i := by
    rw [ByteArray.size_extract]; omega
  have hb : byteAt (s.extract 0 i.toNat) 0 = byteAt s 0 := by
    rw [byteAt_ext s 0 i.toNat 0 (by omega) (by omega) (by simp; omega)]
    rfl
  unfold keys_follows follV
  rw [hsz, hb]
  split
  · rename_i h; subst h
    simp only [Int.zero_lt_one, if_true]
    repeat (first | rfl | (split; · rfl))
  · rfl
def scanV (s : ByteArray) (w : Int) : Nat → Int → Option Int
  | 0, _ => none
  | f + 1, i => if i < w then if (s.size : Int) ≤ i then some 0 else if follV (byteAt s 0) i (byteAt s i) = true then scanV s w f (i + 1) else some i else none
def codeV (s : ByteArray) (w : Int) : Int := IntKind.wrap .i64 (Int.ofNat (Utf8.decode (s.extract 0 w.toNat) 0).1)
theorem runesFrom_head (s : ByteArray) : ∀ (n i : Nat) (acc : Array Value) (j : Nat), j < acc.size → (Conv.runesFrom s n i acc)[j]? = acc[j]?
  | 0, i, acc, j, hj => rfl
  | n + 1, i, acc, j, hj => by
    unfold Conv.runesFrom
    split
    · rw [runesFrom_head s n _ _ j (by simp; omega), Array.getElem?_push_lt hj, Array.getElem?_eq_getElem hj]
    · rfl
theorem runesAt_head (s : ByteArray) (h : 0 < s.size) : (runesAt s)[0]? = some (.int .i32 (Int.ofNat (Utf8.decode s 0).1)) := by
  unfold runesAt
  obtain ⟨n, hn⟩ : ∃ n, s.size = n + 1 := ⟨s.size - 1, by omega⟩
  rw [hn]
  unfold Conv.runesFrom
  rw [if_pos h, runesFrom_head _ _ _ _ _ (by simp)]
  rfl
def restV (s : ByteArray) (w : Int) : Int × Int × Bool × Int := match scanV s w 4 1 with
  | some n => (0, 0, false, n)
  | none => (codeV s w, 0, decide (160 ≤ codeV s w), w)
def plainV (s : ByteArray) : Int × Int × Bool × Int :=
  if ((decide ((byteAt s 0) < 32)) || (decide ((byteAt s 0) = 127))) = true then ((keys_single (byteAt s 0)).1, (keys_single (byteAt s 0)).2, true, 1)
  else if byteAt s 0 < 127 then (byteAt s 0, 0, true, 1)
  else if ((decide (194 ≤ (byteAt s 0))) && (decide ((byteAt s 0) ≤ 223))) = true then restV s 2
  else if ((decide (224 ≤ (byteAt s 0))) && (decide ((byteAt s 0) ≤ 239))) = true then restV s 3
  else if ((decide (240 ≤ (byteAt s 0))) && (decide ((byteAt s 0) ≤ 244))) = true then restV s 4
  else (0, 0, false, 1)

theorem plain_loop {K2 : ByteArray → Nat → Int → Heap → Prop} {Kr : Nat → Bool → Int → Heap → Prop} {h0 : Heap} {s : ByteArray} {w : Int} {b : Nat} {t} {l} (hw : w ≤ 4) (hs : (s.size : Int) < 9223372036854775807) :
    ∀ (f : Nat) (i : Int) (h : Heap) (c : Array Value), c.size = 2 → Own h0 h ((b, c, t) :: l) → 1 ≤ i → w - i < f →
      (∀ n h1, scanV s w f i = some n → Own h0 h1 ((b, setL c 0 [.int .i64 0, .int .i64 0], t) :: l) → Kr b false n h1) → (∀ h1, scanV s w f i = none → Own h0 h1 ((b, c, t) :: l) → K2 s b w h1) → keys_plain_l1 K2 Kr (f + 1) s b w i h
  | 0, i, h, c, hc, ho, h1, hf, hr, hk => by
    unfold keys_plain_l1
    rw [if_neg (by omega)]
    exact hk h rfl ho
  | f + 1, i, h, c, hc, ho, h1, hf, hr, hk => by
    unfold keys_plain_l1
    unfold scanV at hr hk
    by_cases hi : i < w
    · simp only [if_pos hi] at hr hk ⊢
      by_cases hz : (s.size : Int) ≤ i
      · simp only [if_pos hz] at hr hk ⊢
        refine stN_blk ho.get0 (by simp [hc]) fun h1 hp => ?_
        exact hr 0 h1 rfl (Own.putAt (l := []) ho hp)
      · simp only [if_neg hz] at hr hk ⊢
        refine ⟨by omega, by omega, by omega, by omega, ex_i (follows_sp s i _ h1 (by omega)) ?_⟩
        by_cases hv : follV (byteAt s 0) i (byteAt s i) = true
        · simp only [hv, if_true] at hr hk
          rw [hv]
          simp only [Bool.not_true, Bool.false_eq_true, if_false]
          repeat (first | ((with_reducible apply newB_o); (with_reducible assumption); intro _ _ _) | ((with_reducible apply gap_o); (with_reducible assumption); intro _ _) | ((with_reducible apply st0); (with_reducible assumption); rfl; intro _ _) | ((with_reducible apply st1); (with_reducible assumption); rfl; intro _ _) | ((with_reducible apply st2); (with_reducible assumption); rfl; intro _ _) | ((with_reducible apply ldI0); (with_reducible assumption); rfl) | ((with_reducible apply ldI1); (with_reducible assumption); rfl) | ((with_reducible apply ldI2); (with_reducible assumption); rfl) | ((with_reducible apply ldB0); (with_reducible assumption); rfl) | ((with_reducible apply ldB1); (with_reducible assumption); rfl) | ((with_reducible apply ldS0); (with_reducible assumption); rfl) | ((with_reducible apply ldS1); (with_reducible assumption); rfl) | (with_reducible refine and_i (Own.tab (by with_reducible assumption) (by with_reducible assumption)) ?_) | (with_reducible apply nz_i))
          rw [wrap64 (by omega) (by omega)]
          exact plain_loop hw hs f (i + 1) _ c hc (by assumption) (by omega) (by omega) hr hk
        · simp only [if_neg hv] at hr hk
          rw [Bool.eq_false_iff.2 hv]
          simp only [Bool.not_false, if_true]
          refine gap_o ho fun h2 ho2 => ?_
          refine stN_blk ho2.get0 (by simp [hc]) fun h1 hp => ?_
          exact hr i h1 rfl (Own.putAt (l := []) ho2 hp)
    · rw [if_neg hi]
      rw [if_neg hi] at hr hk
      exact hk h rfl ho
theorem plain_rest {Kr : Nat → Bool → Int → Heap → Prop} {K : Int → Int → Bool → Int → Heap → Prop} {h0 : Heap} {s : ByteArray} {w : Int} {b : Nat} {c : Array Value} {t} {l} {h : Heap} (h1 : 2 ≤ w) (hw : w ≤ 4) (hs : (s.size : Int) < 9223372036854775807)
    (hc : c.size = 2) (ho : Own h0 h ((b, c, t) :: l))
    (hr : ∀ x ok n h1, Own h0 h1 ((b, #[.int .i64 x, .int .i64 0], t) :: l) → (x, (0 : Int), ok, n) = restV s w → Kr b ok n h1) : keys_plain_j0 Kr s b w h := by
  obtain ⟨c0, c1, rfl⟩ : ∃ c0 c1, c = #[c0, c1] := by
    rcases c with ⟨l⟩
    match l, hc with
    | [x, y], _ => exact ⟨x, y, rfl⟩
  unfold keys_plain_j0
  refine ⟨5, plain_loop hw hs 4 1 h _ rfl ho (by omega) (by omega) (fun n h1 hn ho1 => ?_) (fun h1 hn ho1 => ?_)⟩
  · exact hr 0 false n h1 ho1 (by unfold restV; rw [hn])
  · have hz : (w : Int) ≤ s.size := by
      by_cases hz : (w : Int) ≤ s.size
      · exact hz
      · exfalso
        revert hn
        unfold scanV
        rw [if_pos (by omega)]
        split
        · simp
        · split
          · unfold scanV
            split
            · split
              · simp
              · split
                · unfold scanV
                  split
                  · split
                    · simp
                    · split
                      · omega
                      · simp
                  · omega
                · simp
            · omega
          · simp
    have hlen : 0 < (s.extract 0 w.toNat).size := by rw [ByteArray.size_extract]; omega
    refine ⟨by omega, by omega, ?_⟩
    refine runesM_o ho1 fun b2 m h2 ho2 => ?_
    have hh := runesAt_head _ hlen
    have hpos : 0 < (runesAt (s.extract 0 w.toNat)).size := (Array.getElem?_eq_some_iff.1 hh).1
    refine nz_i ⟨by omega, by exact_mod_cast hpos, ldI_x ho2.get0 (v := Int.ofNat (Utf8.decode (s.extract 0 w.toNat) 0).1) ?_ ?_⟩
    · rw [Array.getElem?_append_left (by simpa using hpos)]
      simpa using hh
    · repeat (first | ((with_reducible apply newB_o); (with_reducible assumption); intro _ _ _) | ((with_reducible apply gap_o); (with_reducible assumption); intro _ _) | ((with_reducible apply st0); (with_reducible assumption); rfl; intro _ _) | ((with_reducible apply st1); (with_reducible assumption); rfl; intro _ _) | ((with_reducible apply st2); (with_reducible assumption); rfl; intro _ _) | ((with_reducible apply ldI0); (with_reducible assumption); rfl) | ((with_reducible apply ldI1); (with_reducible assumption); rfl) | ((with_reducible apply ldI2); (with_reducible assumption); rfl) | ((with_reducible apply ldB0); (with_reducible assumption); rfl) | ((with_reducible apply ldB1); (with_reducible assumption); rfl) | ((with_reducible apply ldS0); (with_reducible assumption); rfl) | ((with_reducible apply ldS1); (with_reducible assumption); rfl) | (with_reducible refine and_i (Own.tab (by with_reducible assumption) (by with_reducible assumption)) ?_) | (with_reducible apply nz_i))
      exact hr (codeV s w) (decide (160 ≤ codeV s w)) w _ (Own.tail (by assumption)) (by unfold restV; rw [hn])
theorem plain_sp {s : ByteArray} {K : Int → Int → Bool → Int → Heap → Prop} {h : Heap} (hp : 0 < s.size) (hs : (s.size : Int) < 9223372036854775807)
    (hK : ∀ h1, Ext h h1 → K (plainV s).1 (plainV s).2.1 (plainV s).2.2.1 (plainV s).2.2.2 h1) : keys_plain s K h := by
  have ho := Own.init h
  unfold keys_plain
  unfold plainV at hK
  repeat (first | ((with_reducible apply newB_o); (with_reducible assumption); intro _ _ _) | ((with_reducible apply gap_o); (with_reducible assumption); intro _ _) | ((with_reducible apply st0); (with_reducible assumption); rfl; intro _ _) | ((with_reducible apply st1); (with_reducible assumption); rfl; intro _ _) | ((with_reducible apply st2); (with_reducible assumption); rfl; intro _ _) | ((with_reducible apply ldI0); (with_reducible assumption); rfl) | ((with_reducible apply ldI1); (with_reducible assumption); rfl) | ((with_reducible apply ldI2); (with_reducible assumption); rfl) | ((with_reducible apply ldB0); (with_reducible assumption); rfl) | ((with_reducible apply ldB1); (with_reducible assumption); rfl) | ((with_reducible apply ldS0); (with_reducible assumption); rfl) | ((with_reducible apply ldS1); (with_reducible assumption); rfl) | (with_reducible refine and_i (Own.tab (by with_reducible assumption) (by with_reducible assumption)) ?_) | (with_reducible apply nz_i))
  refine ⟨by omega, ?_⟩
  split
  · rename_i hc
    simp only [if_pos hc] at hK
    repeat (first | ((with_reducible apply newB_o); (with_reducible assumption); intro _ _ _) | ((with_reducible apply gap_o); (with_reducible assumption); intro _ _) | ((with_reducible apply st0); (with_reducible assumption); rfl; intro _ _) | ((with_reducible apply st1); (with_reducible assumption); rfl; intro _ _) | ((with_reducible apply st2); (with_reducible assumption); rfl; intro _ _) | ((with_reducible apply ldI0); (with_reducible assumption); rfl) | ((with_reducible apply ldI1); (with_reducible assumption); rfl) | ((with_reducible apply ldI2); (with_reducible assumption); rfl) | ((with_reducible apply ldB0); (with_reducible assumption); rfl) | ((with_reducible apply ldB1); (with_reducible assumption); rfl) | ((with_reducible apply ldS0); (with_reducible assumption); rfl) | ((with_reducible apply ldS1); (with_reducible assumption); rfl) | (with_reducible refine and_i (Own.tab (by with_reducible assumption) (by with_reducible assumption)) ?_) | (with_reducible apply nz_i))
    exact hK _ (Own.ext (by assumption))
  · rename_i hc
    simp only [if_neg hc] at hK
    split
    · rename_i hc
      simp only [if_pos hc] at hK
      repeat (first | ((with_reducible apply newB_o); (with_reducible assumption); intro _ _ _) | ((with_reducible apply gap_o); (with_reducible assumption); intro _ _) | ((with_reducible apply st0); (with_reducible assumption); rfl; intro _ _) | ((with_reducible apply st1); (with_reducible assumption); rfl; intro _ _) | ((with_reducible apply st2); (with_reducible assumption); rfl; intro _ _) | ((with_reducible apply ldI0); (with_reducible assumption); rfl) | ((with_reducible apply ldI1); (with_reducible assumption); rfl) | ((with_reducible apply ldI2); (with_reducible assumption); rfl) | ((with_reducible apply ldB0); (with_reducible assumption); rfl) | ((with_reducible apply ldB1); (with_reducible assumption); rfl) | ((with_reducible apply ldS0); (with_reducible assumption); rfl) | ((with_reducible apply ldS1); (with_reducible assumption); rfl) | (with_reducible refine and_i (Own.tab (by with_reducible assumption) (by with_reducible assumption)) ?_) | (with_reducible apply nz_i))
      rw [wbyte]
      exact hK _ (Own.ext (by assumption))
    · rename_i hc
      simp only [if_neg hc] at hK
      have rest : ∀ w : Int, 2 ≤ w → w ≤ 4 → (∀ h1, Ext h h1 → K (restV s w).1 (restV s w).2.1 (restV s w).2.2.1 (restV s w).2.2.2 h1) → ∀ x ok n h1 {b t l}, Own h h1 ((b, #[.int .i64 x, .int .i64 0], t) :: l) → (x, (0 : Int), ok, n) = restV s w →
          ldI h1 .i64 ⟨b, 0, none⟩ fun x107 => ldI h1 .i64 ⟨b, 1, none⟩ fun x109 => K x107 x109 ok n h1 := by
        intro w _ _ hK x ok n h1 b t l ho he
        repeat (first | ((with_reducible apply newB_o); (with_reducible assumption); intro _ _ _) | ((with_reducible apply gap_o); (with_reducible assumption); intro _ _) | ((with_reducible apply st0); (with_reducible assumption); rfl; intro _ _) | ((with_reducible apply st1); (with_reducible assumption); rfl; intro _ _) | ((with_reducible apply st2); (with_reducible assumption); rfl; intro _ _) | ((with_reducible apply ldI0); (with_reducible assumption); rfl) | ((with_reducible apply ldI1); (with_reducible assumption); rfl) | ((with_reducible apply ldI2); (with_reducible assumption); rfl) | ((with_reducible apply ldB0); (with_reducible assumption); rfl) | ((with_reducible apply ldB1); (with_reducible assumption); rfl) | ((with_reducible apply ldS0); (with_reducible assumption); rfl) | ((with_reducible apply ldS1); (with_reducible assumption); rfl) | (with_reducible refine and_i (Own.tab (by with_reducible assumption) (by with_reducible assumption)) ?_) | (with_reducible apply nz_i))
        rw [← he] at hK
        exact hK _ ho.ext
      split
      · rename_i hc
        simp only [if_pos hc] at hK
        exact plain_rest (K := K) (by omega) (by omega) hs rfl (by assumption) (fun x ok n h1 ho he => rest 2 (by omega) (by omega) hK x ok n h1 ho he)
      · rename_i hc
        simp only [if_neg hc] at hK
        split
        · rename_i hc
          simp only [if_pos hc] at hK
          exact plain_rest (K := K) (by omega) (by omega) hs rfl (by assumption) (fun x ok n h1 ho he => rest 3 (by omega) (by omega) hK x ok n h1 ho he)
        · rename_i hc
          simp only [if_neg hc] at hK
          split
          · rename_i hc
            simp only [if_pos hc] at hK
            exact plain_rest (K := K) (by omega) (by omega) hs rfl (by assumption) (fun x ok n h1 ho he => rest 4 (by omega) (by omega) hK x ok n h1 ho he)
          · rename_i hc
            simp only [if_neg hc] at hK
            repeat (first | ((with_reducible apply newB_o); (with_reducible assumption); intro _ _ _) | ((with_reducible apply gap_o); (with_reducible assumption); intro _ _) | ((with_reducible apply st0); (with_reducible assumption); rfl; intro _ _) | ((with_reducible apply st1); (with_reducible assumption); rfl; intro _ _) | ((with_reducible apply st2); (with_reducible assumption); rfl; intro _ _) | ((with_reducible apply ldI0); (with_reducible assumption); rfl) | ((with_reducible apply ldI1); (with_reducible assumption); rfl) | ((with_reducible apply ldI2); (with_reducible assumption); rfl) | ((with_reducible apply ldB0); (with_reducible assumption); rfl) | ((with_reducible apply ldB1); (with_reducible assumption); rfl) | ((with_reducible apply ldS0); (with_reducible assumption); rfl) | ((with_reducible apply ldS1); (with_reducible assumption); rfl) | (with_reducible refine and_i (Own.tab (by with_reducible assumption) (by with_reducible assumption)) ?_) | (with_reducible apply nz_i))
            exact hK _ (Own.ext (by assumption))
end Go.Proofs.YtkbpnmgkdodcmaaDoor.M
