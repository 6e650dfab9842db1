import Derived.Test.YtkbpnmgkdodcmaaDoorD18
import Derived.Test.YtkbpnmgkdodcmaaDoorB8
set_option linter.unusedVariables false
set_option linter.unusedSimpArgs false
set_option maxRecDepth 100000
namespace Go.Proofs.YtkbpnmgkdodcmaaDoor.M
open Go Go.Hp

/-! ### Every Feed, Held and Flush -/
/-- The list is written over. -/
theorem feeds_l2 {K2 : Option Addr → Nat → Nat → Option Addr → Nat → Int → Heap → Prop} {h0 : Heap} {y48 : Option Addr} {y48n y48c : Nat} {y49 : Option Addr} {y50 : Nat} {y51 : Int} {b n c : Nat} {t} {l} (hn : n < 9000000000000000000) :
    ∀ (f : Nat) (i : Nat) (h : Heap) (cs : Array Value), Own h0 h ((b, cs, t) :: l) → n * 2 ≤ cs.size → n < f + i → i ≤ n →
      (∀ h' cs', Own h0 h' ((b, cs', t) :: l) → K2 y48 y48n y48c y49 y50 y51 h') → law21_KeysFeeds_l2 K2 f y48 y48n y48c y49 y50 y51 (some ⟨b, 0, none⟩) n c i h := by
  intro f
  induction f with
  | zero => intro i h cs ho hc hf hi; omega
  | succ f ih =>
    intro i h cs ho hc hf hi hk
    unfold law21_KeysFeeds_l2
    by_cases hlt : (i : Int) < (n : Int)
    · rw [if_pos hlt]
      refine nz_i ⟨by omega, hlt, ?_⟩
      rw [add0]
      have hle : 0 + (i : Int).toNat * 2 + 2 ≤ cs.size := by omega
      refine st0 ho (by simpa using hle) fun h1 ho1 => ?_
      rw [wrap64 (x := (i : Int) + 1) (by omega) (by omega)]
      refine ih (i + 1) h1 _ ho1 ?_ (by omega) (by omega) hk
      have : (setL cs (0 + (i : Int).toNat * 2) [Value.int .i64 (-1), .int .i64 0]).size = cs.size := by simp [setL]
      rw [this]
      exact hc
    · rw [if_neg hlt]
      exact hk h cs ho
theorem feeds_l2' {K2 : Option Addr → Nat → Nat → Option Addr → Nat → Int → Heap → Prop} {h0 h : Heap} {y48 : Option Addr} {y48n y48c : Nat} {y49 : Option Addr} {y50 : Nat} {y51 : Int} {a : Option Addr} {n c : Nat} {ks o} {l} (hn : n < 9000000000000000000)
    (hs : SlO kf 2 36 a n c ks o) (ho : Own h0 h (o ++ l)) (hk : ∀ h', Own h0 h' l → K2 y48 y48n y48c y49 y50 y51 h') : ∃ f, law21_KeysFeeds_l2 K2 f y48 y48n y48c y49 y50 y51 a n c 0 h := by
  refine ⟨n + 1, ?_⟩
  obtain ⟨e, ⟨ho', rfl, hc0, hk0⟩ | ⟨b, cs, rest, rfl, rfl, hcs, hr, hle⟩⟩ := hs
  · subst ho' hk0
    obtain rfl : n = 0 := e
    unfold law21_KeysFeeds_l2
    rw [if_neg (by simp)]
    exact hk h ho
  · have hfl := flat_len kf kf_len ks
    have hsz : n * 2 ≤ cs.size := by
      rw [← Array.length_toList, hcs, List.length_append, hfl, e]
      omega
    exact feeds_l2 hn (n + 1) 0 h cs ho hsz (by omega) (by omega) fun h' cs' ho' => hk h' (Own.tail ho')

theorem flushL_len : ∀ (f : Nat) (s : ByteArray) (acc : List (Int × Int)), (flushL f s acc).length ≤ acc.length + f := by
  intro f
  induction f with
  | zero => intro s acc; simp [flushL]
  | succ f ih =>
    intro s acc
    unfold flushL
    split
    · split
      · split
        · simp only [List.length_append, List.length_singleton]; omega
        · omega
      · refine Nat.le_trans (ih _ _) ?_
        split
        · simp only [List.length_append, List.length_singleton]; omega
        · omega
    · omega
theorem flush_len (s : ByteArray) : (flushV s).length ≤ s.size + 1 := by
  have := flushL_len (s.size + 1) s []
  unfold flushV
  simpa using this
/-- A slice of strings that nobody writes to. -/
def SlS (h : Heap) (a : Option Addr) (n : Nat) (ss : List ByteArray) : Prop :=
  n = ss.length ∧ ∀ i, i < n → ∃ p, a = some p ∧ cellH h (p.add i) = some (.string (ss.getD i ⟨#[]⟩))
def totS (ss : List ByteArray) : Nat := (ss.map (·.size)).sum
theorem feeds_j1 {Kn : Option Addr → Nat → Nat → Option Addr → Nat → Int → Heap → Prop} {Kr : Bool → Heap → Prop} {h0 h : Heap} {y30 : Option Addr} {y30n y30c : Nat} {d r : Nat} {y33 : Int} {a a' : Option Addr} {n c n' c' : Nat} {ks : List (Int × Int)} {o o'} {s : ByteArray} {t t'}
    (ho : Own h0 h ((r, #[.string s], t) :: (o' ++ ((d, #[.string s], t') :: o)))) (hs : SlO kf 2 36 a n c ks o) (hs' : SlO kf 2 36 a' n' c' ks o') (hn : ks.length < 9000000000000000000)
    (hk : ∀ h', Own h0 h' [(d, #[.string s], t'), (r, #[.string s], t)] → Kn y30 y30n y30c (some ⟨d, 0, none⟩) r y33 h') :
    law21_KeysFeeds_j1 Kn Kr y30 y30n y30c (some ⟨d, 0, none⟩) r y33 a n c a' n' c' h := by
  unfold law21_KeysFeeds_j1
  simp only [toListE]
  have e1 := hs.1
  have ho1 : Own h0 h ([] ++ (o ++ ((r, #[.string s], t) :: (o' ++ [(d, #[.string s], t')])))) := ho.perm (by (classical exact List.perm_iff_count.2 (fun x => by simp only [List.count_append, List.count_cons, List.count_nil]; omega)))
  have ho2 : Own h0 h ([] ++ (o' ++ ((r, #[.string s], t) :: (o ++ [(d, #[.string s], t')])))) := ho.perm (by (classical exact List.perm_iff_count.2 (fun x => by simp only [List.count_append, List.count_cons, List.count_nil]; omega)))
  refine same_sp (SlO.slg (pre := []) hs ho1) (SlO.slg (pre := []) hs' ho2) (by omega) ?_
  rw [decide_eq_true rfl, if_neg (by simp)]
  repeat (first | ((with_reducible apply newB_o); (with_reducible assumption); intro _ _ _) | ((with_reducible apply gap_o); (with_reducible assumption); intro _ _) | ((with_reducible apply st0); (with_reducible assumption); rfl; intro _ _) | ((with_reducible apply st1); (with_reducible assumption); rfl; intro _ _) | ((with_reducible apply st2); (with_reducible assumption); rfl; intro _ _) | ((with_reducible apply ldI0); (with_reducible assumption); rfl) | ((with_reducible apply ldI1); (with_reducible assumption); rfl) | ((with_reducible apply ldI2); (with_reducible assumption); rfl) | ((with_reducible apply ldB0); (with_reducible assumption); rfl) | ((with_reducible apply ldB1); (with_reducible assumption); rfl) | ((with_reducible apply ldS0); (with_reducible assumption); rfl) | ((with_reducible apply ldS1); (with_reducible assumption); rfl) | (with_reducible refine and_i (Own.tab (by with_reducible assumption) (by with_reducible assumption)) ?_) | (with_reducible apply nz_i))
  have ho3 : Own h0 h ((d, #[.string s], t') :: (r, #[.string s], t) :: (o ++ o')) := ho.perm (by (classical exact List.perm_iff_count.2 (fun x => by simp only [List.count_append, List.count_cons, List.count_nil]; omega)))
  refine held_sp ho3 ?_
  refine ⟨ho.get0.cell 0 rfl, ?_⟩
  rw [if_neg (by simp)]
  have ho4 : Own h0 h (o ++ ((d, #[.string s], t') :: (r, #[.string s], t) :: o')) := ho.perm (by (classical exact List.perm_iff_count.2 (fun x => by simp only [List.count_append, List.count_cons, List.count_nil]; omega)))
  exact feeds_l2' (by omega) hs ho4 fun h' ho5 => hk h' (ho5.sub (by simp))
theorem feeds_l0 {K0 : Heap → Prop} {Kr : Bool → Heap → Prop} {h0 : Heap} {a : Option Addr} {n c d r : Nat} {ss : List ByteArray} {t t'} (hT : TabH h0) (hA : SlS h0 a n ss) (hn : n < 9000000000000000000) (hK : ∀ h1, Ext h0 h1 → K0 h1) :
    ∀ (f : Nat) (i : Nat) (s : ByteArray) (h : Heap), Own h0 h [(d, #[.string s], t'), (r, #[.string s], t)] → s.size + totS (ss.drop i) ≤ 4000000000000 → n < f + i → i ≤ n → law21_KeysFeeds_l0 K0 Kr f a n c (some ⟨d, 0, none⟩) r i h := by
  intro f
  induction f with
  | zero => intro i s h ho hb hf hi; omega
  | succ f ih =>
    intro i s h ho hb hf hi
    unfold law21_KeysFeeds_l0
    simp only [toListE]
    have e1 : IntKind.wrap .i64 ((i : Int) + 1) = ((i + 1 : Nat) : Int) := by rw [wrap64 (by omega) (by omega)]; omega
    by_cases hlt : (i : Int) < (n : Int)
    · rw [if_pos hlt]
      obtain ⟨p, rfl, hc⟩ := hA.2 i (by omega)
      have hl := hA.1
      have hd : ss.drop i = ss.getD i ⟨#[]⟩ :: ss.drop (i + 1) := by
        rw [List.drop_eq_getElem_cons (by omega), List.getD_eq_getElem?_getD, List.getElem?_eq_getElem (by omega)]
        rfl
      rw [hd] at hb
      generalize ss.getD i ⟨#[]⟩ = x at *
      have hb2 : s.size + (x.size + totS (ss.drop (i + 1))) ≤ 4000000000000 := hb
      have hcx : ∀ h', Ext h0 h' → cellH h' (p.add ((i : Int).toNat * 1)) = some (.string x) := fun h' he => by
        rw [show (i : Int).toNat * 1 = i by omega]
        exact he.cell hc
      refine nz_i ⟨by omega, hlt, ⟨x, hcx h ho.ext, ?_⟩⟩
      simp only []
      split
      · rename_i hx
        refine flush_sp ho (by omega) fun a1 n1 c1 o1 h1 ho1 hs1 => ?_
        have ho1' : Own h0 h1 ((r, #[.string s], t) :: (d, #[.string ⟨#[]⟩], t') :: o1) := ho1.perm (by (classical exact List.perm_iff_count.2 (fun x => by simp only [List.count_append, List.count_cons, List.count_nil]; omega)))
        repeat (first | ((with_reducible apply newB_o); (with_reducible assumption); intro _ _ _) | ((with_reducible apply gap_o); (with_reducible assumption); intro _ _) | ((with_reducible apply st0); (with_reducible assumption); rfl; intro _ _) | ((with_reducible apply st1); (with_reducible assumption); rfl; intro _ _) | ((with_reducible apply st2); (with_reducible assumption); rfl; intro _ _) | ((with_reducible apply ldI0); (with_reducible assumption); rfl) | ((with_reducible apply ldI1); (with_reducible assumption); rfl) | ((with_reducible apply ldI2); (with_reducible assumption); rfl) | ((with_reducible apply ldB0); (with_reducible assumption); rfl) | ((with_reducible apply ldB1); (with_reducible assumption); rfl) | ((with_reducible apply ldS0); (with_reducible assumption); rfl) | ((with_reducible apply ldS1); (with_reducible assumption); rfl) | (with_reducible refine and_i (Own.tab (by with_reducible assumption) (by with_reducible assumption)) ?_) | (with_reducible apply nz_i))
        refine flushR_sp ho1' (by omega) fun a2 n2 c2 o2 h2 ho2 hs2 => ?_
        have ho2' : Own h0 h2 ((r, #[.string s], t) :: (o2 ++ ((d, #[.string ⟨#[]⟩], t') :: o1))) := ho2.perm (by (classical exact List.perm_iff_count.2 (fun x => by simp only [List.count_append, List.count_cons, List.count_nil]; omega)))
        repeat (first | ((with_reducible apply newB_o); (with_reducible assumption); intro _ _ _) | ((with_reducible apply gap_o); (with_reducible assumption); intro _ _) | ((with_reducible apply st0); (with_reducible assumption); rfl; intro _ _) | ((with_reducible apply st1); (with_reducible assumption); rfl; intro _ _) | ((with_reducible apply st2); (with_reducible assumption); rfl; intro _ _) | ((with_reducible apply ldI0); (with_reducible assumption); rfl) | ((with_reducible apply ldI1); (with_reducible assumption); rfl) | ((with_reducible apply ldI2); (with_reducible assumption); rfl) | ((with_reducible apply ldB0); (with_reducible assumption); rfl) | ((with_reducible apply ldB1); (with_reducible assumption); rfl) | ((with_reducible apply ldS0); (with_reducible assumption); rfl) | ((with_reducible apply ldS1); (with_reducible assumption); rfl) | (with_reducible refine and_i (Own.tab (by with_reducible assumption) (by with_reducible assumption)) ?_) | (with_reducible apply nz_i))
        have hfl : (flushV s).length < 9000000000000000000 := by
          have := flush_len s
          omega
        refine feeds_j1 (by assumption) hs1 hs2 hfl fun h3 ho3 => ?_
        rw [e1]
        exact ih (i + 1) _ h3 ho3 (by show 0 + _ ≤ _; omega) (by omega) (by omega)
      · rename_i hx
        refine ⟨by omega, hlt, ⟨x, hcx h ho.ext, ?_⟩⟩
        refine feed_sp hT ho (by omega) fun a1 n1 c1 o1 h1 ho1 hs1 => ?_
        have ho1' : Own h0 h1 ((r, #[.string s], t) :: (d, #[.string (feedV (s ++ x)).2], t') :: o1) := ho1.perm (by (classical exact List.perm_iff_count.2 (fun x => by simp only [List.count_append, List.count_cons, List.count_nil]; omega)))
        repeat (first | ((with_reducible apply newB_o); (with_reducible assumption); intro _ _ _) | ((with_reducible apply gap_o); (with_reducible assumption); intro _ _) | ((with_reducible apply st0); (with_reducible assumption); rfl; intro _ _) | ((with_reducible apply st1); (with_reducible assumption); rfl; intro _ _) | ((with_reducible apply st2); (with_reducible assumption); rfl; intro _ _) | ((with_reducible apply ldI0); (with_reducible assumption); rfl) | ((with_reducible apply ldI1); (with_reducible assumption); rfl) | ((with_reducible apply ldI2); (with_reducible assumption); rfl) | ((with_reducible apply ldB0); (with_reducible assumption); rfl) | ((with_reducible apply ldB1); (with_reducible assumption); rfl) | ((with_reducible apply ldS0); (with_reducible assumption); rfl) | ((with_reducible apply ldS1); (with_reducible assumption); rfl) | (with_reducible refine and_i (Own.tab (by with_reducible assumption) (by with_reducible assumption)) ?_) | (with_reducible apply nz_i))
        refine ⟨by omega, hlt, ⟨x, hcx h1 ho1.ext, ?_⟩⟩
        refine feedR_sp ho1' (by omega) fun a2 n2 c2 o2 h2 ho2 hs2 => ?_
        have ho2' : Own h0 h2 ((r, #[.string s], t) :: (o2 ++ ((d, #[.string (feedV (s ++ x)).2], t') :: o1))) := ho2.perm (by (classical exact List.perm_iff_count.2 (fun x => by simp only [List.count_append, List.count_cons, List.count_nil]; omega)))
        repeat (first | ((with_reducible apply newB_o); (with_reducible assumption); intro _ _ _) | ((with_reducible apply gap_o); (with_reducible assumption); intro _ _) | ((with_reducible apply st0); (with_reducible assumption); rfl; intro _ _) | ((with_reducible apply st1); (with_reducible assumption); rfl; intro _ _) | ((with_reducible apply st2); (with_reducible assumption); rfl; intro _ _) | ((with_reducible apply ldI0); (with_reducible assumption); rfl) | ((with_reducible apply ldI1); (with_reducible assumption); rfl) | ((with_reducible apply ldI2); (with_reducible assumption); rfl) | ((with_reducible apply ldB0); (with_reducible assumption); rfl) | ((with_reducible apply ldB1); (with_reducible assumption); rfl) | ((with_reducible apply ldS0); (with_reducible assumption); rfl) | ((with_reducible apply ldS1); (with_reducible assumption); rfl) | (with_reducible refine and_i (Own.tab (by with_reducible assumption) (by with_reducible assumption)) ?_) | (with_reducible apply nz_i))
        have hsx : (s ++ x).size = s.size + x.size := ByteArray.size_append ..
        have hfl := feed_len _ (s ++ x) (Nat.le_refl _) (by omega)
        have hsf := (feed_suffix _ (s ++ x) (Nat.le_refl _) (by omega)).1
        refine feeds_j1 (by assumption) hs1 hs2 (by omega) fun h3 ho3 => ?_
        rw [e1]
        exact ih (i + 1) _ h3 ho3 (by omega) (by omega) (by omega)
    · rw [if_neg hlt]
      exact hK h ho.ext
theorem feeds_sp {K : Bool → Heap → Prop} {h : Heap} {a : Option Addr} {n c : Nat} {ss : List ByteArray} (hT : TabH h) (hA : SlS h a n ss) (hn : n < 9000000000000000000) (hb : totS ss ≤ 4000000000000) (hK : ∀ h1, Ext h h1 → K true h1) : law21_KeysFeeds a n c K h := by
  unfold law21_KeysFeeds
  refine new_sp (Own.init h) fun d h1 ho1 => ?_
  repeat (first | ((with_reducible apply newB_o); (with_reducible assumption); intro _ _ _) | ((with_reducible apply gap_o); (with_reducible assumption); intro _ _) | ((with_reducible apply st0); (with_reducible assumption); rfl; intro _ _) | ((with_reducible apply st1); (with_reducible assumption); rfl; intro _ _) | ((with_reducible apply st2); (with_reducible assumption); rfl; intro _ _) | ((with_reducible apply ldI0); (with_reducible assumption); rfl) | ((with_reducible apply ldI1); (with_reducible assumption); rfl) | ((with_reducible apply ldI2); (with_reducible assumption); rfl) | ((with_reducible apply ldB0); (with_reducible assumption); rfl) | ((with_reducible apply ldB1); (with_reducible assumption); rfl) | ((with_reducible apply ldS0); (with_reducible assumption); rfl) | ((with_reducible apply ldS1); (with_reducible assumption); rfl) | (with_reducible refine and_i (Own.tab (by with_reducible assumption) (by with_reducible assumption)) ?_) | (with_reducible apply nz_i))
  rw [if_neg (by simp)]
  have ho2 := ‹Own h _ ((_, #[Value.string ⟨#[]⟩], 26) :: _)›
  refine ⟨n + 1, feeds_l0 (t := 26) (t' := 53) hT hA hn (fun h2 he => ?_) (n + 1) 0 ⟨#[]⟩ _ (ho2.perm (by (classical exact List.perm_iff_count.2 (fun x => by simp only [List.count_append, List.count_cons, List.count_nil]; omega)))) (by show 0 + _ ≤ _; simpa using hb) (by omega) (by omega)⟩
  exact sure_sp (he.cellsAt hT) fun h3 he3 => hK h3 (he.trans he3)
end Go.Proofs.YtkbpnmgkdodcmaaDoor.M
