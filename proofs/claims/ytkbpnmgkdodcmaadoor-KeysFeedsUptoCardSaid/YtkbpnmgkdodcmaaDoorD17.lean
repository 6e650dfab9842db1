import Derived.Test.YtkbpnmgkdodcmaaDoorD16
set_option linter.unusedVariables false
set_option linter.unusedSimpArgs false
set_option maxRecDepth 100000
namespace Go.Proofs.YtkbpnmgkdodcmaaDoor.M
open Go Go.Hp

/-! ### The document's Feed and Flush tell what the code's do -/
theorem key_cond {v : Int × Int × Bool × Int} {r : Int × Int × Int} (ha : Alike v r) : (!((r.1 == 0) && (r.2.1 == 0))) = v.2.2.1 := by
  obtain ⟨_, a2, a3⟩ := ha
  cases hk : v.2.2.1 with
  | true => obtain ⟨e1, _, e3⟩ := a2 hk; rw [e1]; simp [e3]
  | false => obtain ⟨e1, e2⟩ := a3 hk; rw [e1, e2]; rfl
theorem feedR_loop {K0 : Nat → Option Addr → Nat → Nat → ByteArray → Heap → Prop} {h0 : Heap} {d : Nat} {x} {l} :
    ∀ (f : Nat) (s : ByteArray) (acc : List (Int × Int)) (a : Option Addr) (n c : Nat) (o) (h : Heap), Own h0 h ([x] ++ (o ++ l)) → SlO kf 2 36 a n c acc o → s.size < f → acc.length + s.size ≤ 4000000000000 →
      (∀ a' n' c' o' h', Own h0 h' ([x] ++ (o' ++ l)) → SlO kf 2 36 a' n' c' (feedL f s acc).1 o' → K0 d a' n' c' (feedL f s acc).2 h') →
      ref21_Feed_l0 K0 f d a n c s h := by
  intro f
  induction f with
  | zero => intro s acc a n c o h ho hs hf; omega
  | succ f ih =>
    intro s acc a n c o h ho hs hf hb hk
    unfold ref21_Feed_l0
    simp only [toListE]
    unfold feedL at hk
    split
    · rename_i hne
      rw [if_pos hne] at hk
      have hpos := ne_empty hne
      refine beginR_sp hpos (by omega) fun h2 he => ?_
      have ho2 := ho.gap he
      have hI : nextI s = nextV s := by unfold nextI; rfl
      rw [hI] at hk
      have hn := nextV_n s hpos (by omega)
      have ha := begin_alike hpos (by omega)
      have hkc := key_cond ha
      obtain ⟨a1, a2, a3⟩ := ha
      rw [hkc, a1]
      have hl := hs.1
      have hsz : (s.extract (nextV s).2.2.2.toNat s.size).size = s.size - (nextV s).2.2.2.toNat := by rw [ByteArray.size_extract]; omega
      split
      · rename_i hc
        rw [if_pos hc] at hk
        refine gap_o ho2 fun h3 ho3 => ?_
        exact hk _ _ _ _ _ ho3 hs
      · rename_i hc
        rw [if_neg hc] at hk
        split
        · rename_i hok
          rw [if_pos hok] at hk
          obtain ⟨e1, e2, _⟩ := a2 hok
          rw [e1, e2]
          refine gap_o ho2 fun h3 ho3 => ?_
          refine SlO.app (f := kf) (sz := 2) (js := [((nextV s).1, (nextV s).2.1)]) (pre := [x]) kf_len rfl hs ho3 ?_ ?_ fun a' c' o' h' ho4 hs4 => ?_
          · simp only [List.length_singleton]; omega
          · simp only [List.length_singleton]; omega
          · refine ⟨hn.1, hn.2, ?_⟩
            exact ih _ _ _ _ _ o' _ ho4 hs4 (by omega) (by simp only [List.length_append, List.length_singleton]; omega) hk
        · rename_i hok
          rw [if_neg hok] at hk
          refine ⟨hn.1, hn.2, ?_⟩
          refine gap_o ho2 fun h3 ho3 => ?_
          exact ih _ _ _ _ _ o _ ho3 hs (by omega) (by omega) hk
    · rename_i hne
      rw [if_neg hne] at hk
      exact hk _ _ _ _ _ ho hs
theorem feedR_sp {K : ByteArray → Option Addr → Nat → Nat → Heap → Prop} {h0 h : Heap} {l} {s x : ByteArray} (ho : Own h0 h l) (hb : s.size + x.size ≤ 4000000000000)
    (hk : ∀ a n c o h', Own h0 h' (o ++ l) → SlO kf 2 36 a n c (feedV (s ++ x)).1 o → K (feedV (s ++ x)).2 a n c h') : ref21_Feed s x K h := by
  unfold ref21_Feed
  refine gap_o ho fun h1 ho1 => ?_
  refine newB_o ho1 fun b h2 ho2 => ⟨by omega, (s ++ x).size + 1, feedR_loop (h0 := h0) (x := (b, #[.string ⟨#[]⟩], 26)) (l := l) _ (s ++ x) [] none 0 0 [] _ ho2 SlO.nil (by omega) (by simp only [ByteArray.size_append, List.length_nil]; omega) fun a n c o h' ho' hs' => ?_⟩
  have ho' : Own h0 h' ((b, #[.string ⟨#[]⟩], 26) :: (o ++ l)) := ho'
  repeat (first | ((with_reducible apply newB_o); (with_reducible assumption); intro _ _ _) | ((with_reducible apply gap_o); (with_reducible assumption); intro _ _) | ((with_reducible apply st0); (with_reducible assumption); rfl; intro _ _) | ((with_reducible apply st1); (with_reducible assumption); rfl; intro _ _) | ((with_reducible apply st2); (with_reducible assumption); rfl; intro _ _) | ((with_reducible apply ldI0); (with_reducible assumption); rfl) | ((with_reducible apply ldI1); (with_reducible assumption); rfl) | ((with_reducible apply ldI2); (with_reducible assumption); rfl) | ((with_reducible apply ldB0); (with_reducible assumption); rfl) | ((with_reducible apply ldB1); (with_reducible assumption); rfl) | ((with_reducible apply ldS0); (with_reducible assumption); rfl) | ((with_reducible apply ldS1); (with_reducible assumption); rfl) | (with_reducible refine and_i (Own.tab (by with_reducible assumption) (by with_reducible assumption)) ?_) | (with_reducible apply nz_i))
  exact hk a n c o _ (Own.tail (by assumption)) hs'

/-- One step of the document's Flush: a key, and how many bytes. -/
def stepF (s : ByteArray) : Int × Int × Int := if (s.data.toList == (⟨#[27]⟩ : ByteArray).data.toList) = true then (27, 0, 1) else if byteAt s 0 = 27 then metaI s else plainRI s
theorem flushR_j1 {K0 Kx : Nat → Option Addr → Nat → Nat → Heap → Prop} {Kn : Nat → Option Addr → Nat → Nat → ByteArray → Heap → Prop} {h0 h : Heap} {d b : Nat} {x} {l} {s : ByteArray} {acc : List (Int × Int)} {a : Option Addr} {n c : Nat} {o} {p : Int} {q : Int} {w : Int} {t}
    (ho : Own h0 h ([(b, #[.int .i64 p, .int .i64 q], t), x] ++ (o ++ l))) (hs : SlO kf 2 36 a n c acc o) (hl : acc.length ≤ 4000000000000) (w0 : 0 ≤ w) (w1 : w ≤ s.size)
    (h1 : ∀ h', w = 0 → Own h0 h' ([x] ++ (o ++ l)) → K0 d a n c h')
    (h2 : ∀ a' n' c' o' h', w ≠ 0 → Own h0 h' ([x] ++ (o' ++ l)) → SlO kf 2 36 a' n' c' (if (!((p == 0) && (q == 0))) = true then acc ++ [(p, q)] else acc) o' → Kn d a' n' c' (s.extract w.toNat s.size) h') :
    ref21_Flush_j1 K0 Kn d a n c s b w h := by
  have hl2 := hs.1
  have hoB : Own h0 h ((b, #[.int .i64 p, .int .i64 q], t) :: ([x] ++ (o ++ l))) := ho
  unfold ref21_Flush_j1
  split
  · rename_i hc
    exact h1 h hc (Own.tail hoB)
  · rename_i hc
    refine ldI0 hoB rfl (ldI0 hoB rfl ?_)
    by_cases hz : (!((p == 0) && (q == 0))) = true
    · rw [if_pos hz]
      refine ldI0 hoB rfl (ldI0 hoB rfl ?_)
      refine gap_o ho fun h3 ho3 => ?_
      refine SlO.app (f := kf) (sz := 2) (js := [(p, q)]) (pre := [(b, #[.int .i64 p, .int .i64 q], t), x]) kf_len rfl hs ho3 (by simp only [List.length_singleton]; omega) (by simp only [List.length_singleton]; omega) fun a' c' o' h' ho4 hs4 => ?_
      have ho5 : Own h0 h' ((b, #[.int .i64 p, .int .i64 q], t) :: ([x] ++ (o' ++ l))) := ho4
      refine ⟨w0, w1, h2 _ _ _ o' _ hc (Own.tail ho5) ?_⟩
      rw [if_pos hz]
      exact hs4
    · rw [if_neg hz]
      refine ⟨w0, w1, h2 _ _ _ o _ hc (Own.tail hoB) ?_⟩
      rw [if_neg hz]
      exact hs
end Go.Proofs.YtkbpnmgkdodcmaaDoor.M
