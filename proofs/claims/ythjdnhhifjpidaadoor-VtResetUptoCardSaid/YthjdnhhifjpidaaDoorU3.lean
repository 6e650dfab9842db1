import Derived.Test.YthjdnhhifjpidaaDoorU2
set_option linter.unusedVariables false
set_option linter.unusedSimpArgs false
set_option maxRecDepth 100000
namespace Go.Proofs.YthjdnhhifjpidaaDoor.M
open Go Go.Hp

/-! ### An element of one's own slice is written -/
theorem flat_set {α : Type} (f : α → List Value) {sz : Nat} (hf : ∀ r, (f r).length = sz) : ∀ (ks : List α) (i : Nat) (k : α), i < ks.length → (ks.set i k).flatMap f = (ks.flatMap f).take (i * sz) ++ (f k ++ (ks.flatMap f).drop (i * sz + sz))
  | x :: ks, 0, k, _ => by
    rw [List.set_cons_zero, List.flatMap_cons, List.flatMap_cons, Nat.zero_mul, Nat.zero_add, List.take_zero, List.nil_append, ← hf x, List.drop_left]
  | x :: ks, i + 1, k, hi => by
    have ih := flat_set f hf ks i k (by simpa using hi)
    have e1 : List.take ((i + 1) * sz) (f x ++ List.flatMap f ks) = f x ++ List.take (i * sz) (List.flatMap f ks) := by
      rw [List.take_append, List.take_of_length_le (l := f x) (by rw [hf, Nat.succ_mul]; omega), hf, show (i + 1) * sz - sz = i * sz by rw [Nat.succ_mul]; omega]
    have e2 : List.drop ((i + 1) * sz + sz) (f x ++ List.flatMap f ks) = List.drop (i * sz + sz) (List.flatMap f ks) := by
      rw [List.drop_append, List.drop_of_length_le (l := f x) (by rw [hf, Nat.succ_mul]; omega), hf, show (i + 1) * sz + sz - sz = i * sz + sz by rw [Nat.succ_mul]; omega, List.nil_append]
    rw [List.set_cons_succ, List.flatMap_cons, List.flatMap_cons, ih, e1, e2, List.append_assoc]
theorem SlO.set {α : Type} {f : α → List Value} {sz : Nat} {t : TypeId} {a : Option Addr} {n c : Nat} {ks : List α} {o pre l : Blks} {h0 : Base} {h : Heap} {K : Heap → Prop} (hf : ∀ k, (f k).length = sz) (hs : SlO f sz t a n c ks o) (ho : Own h0 h (pre ++ (o ++ l))) (i : Nat) (k : α) (hi : i < n) {p : Addr} (hp : a = some p)
    (hK : ∀ h' o', Own h0 h' (pre ++ (o' ++ l)) → SlO f sz t a n c (ks.set i k) o' → K h') : stN (p.add (i * sz)) (f k) 0 h K := by
  obtain ⟨hn, ⟨_, h2, _, h4⟩ | ⟨b, cs, rest, rfl, h2, hcs, hr, hle⟩⟩ := hs
  · rw [h2] at hp; cases hp
  · obtain rfl : p = ⟨b, 0, none⟩ := Option.some.inj (hp.symm.trans h2)
    have hfl := flat_len f hf ks
    have hsz : i * sz + (f k).length ≤ (ks.flatMap f).length := by
      rw [hf, hfl, ← Nat.succ_mul]
      exact Nat.mul_le_mul_right _ (by omega)
    have hcl : cs.size = (ks.flatMap f).length + rest.length := by rw [← Array.length_toList, hcs, List.length_append]
    rw [add0, Nat.zero_add]
    refine stN_blk (Own.mid (x := (b, cs, t)) (by simpa using ho)).1 (show i * sz + 0 + (f k).length ≤ cs.size by omega) fun h1 hp1 => ?_
    refine hK h1 [(b, setL cs (i * sz + 0) (f k), t)] (Own.putAt (l := pre) (l2 := l) (by simpa using ho) hp1) ⟨by rw [List.length_set]; exact hn, .inr ⟨b, _, rest, rfl, h2, ?_, hr, hle⟩⟩
    rw [Nat.add_zero, setL_toList _ _ _ (by omega), hcs, flat_set f hf ks i k (by omega), List.take_append_of_le_length (by omega), List.drop_append_of_le_length (by omega), hf]
    simp
theorem fl_split (bs : List Blks) (i : Nat) (hi : i < bs.length) : bs.flatten = (bs.take i).flatten ++ (bs.getD i [] ++ (bs.drop (i + 1)).flatten) := by
  conv => lhs; rw [← List.take_append_drop i bs]
  rw [List.flatten_append, List.drop_eq_getElem_cons hi, List.flatten_cons, List.getD_eq_getElem?_getD, List.getElem?_eq_getElem hi]
  rfl
theorem fl_set (bs : List Blks) (i : Nat) (b : Blks) (hi : i < bs.length) : (bs.set i b).flatten = (bs.take i).flatten ++ (b ++ (bs.drop (i + 1)).flatten) := by
  rw [fl_split (bs.set i b) i (by simpa using hi), List.take_set_of_le (by omega), List.drop_set_of_lt (by omega)]
  rw [List.getD_eq_getElem?_getD, List.getElem?_set_self (by omega)]
  rfl
theorem RowsB.set {ks R bs} (hr : RowsB ks R bs) (i : Nat) (g : List Gl) (b : Blks) (hs : SlO gf 5 43 (ks.getD i (none, 0, 0)).1 (ks.getD i (none, 0, 0)).2.1 (ks.getD i (none, 0, 0)).2.2 g b) : RowsB ks (R.set i g) (bs.set i b) := by
  obtain ⟨h1, h2, h3⟩ := hr
  refine ⟨by simpa using h1, by simpa using h2, fun j hj => ?_⟩
  rw [List.length_set] at hj
  by_cases hji : j = i
  · subst hji
    rw [List.getD_eq_getElem?_getD (l := R.set j g), List.getElem?_set_self hj, List.getD_eq_getElem?_getD (l := bs.set j b), List.getElem?_set_self (by omega)]
    exact hs
  · rw [List.getD_eq_getElem?_getD (l := R.set i g), List.getElem?_set_ne (by omega), List.getD_eq_getElem?_getD (l := bs.set i b), List.getElem?_set_ne (by omega), ← List.getD_eq_getElem?_getD, ← List.getD_eq_getElem?_getD]
    exact h3 j hj

/-! ### The sheet that is shown -/
def Scr.sh (S : Scr) : List (List Gl) := if S.alt = true then S.other else S.main
def Scr.setSh (S : Scr) (R : List (List Gl)) : Scr := if S.alt = true then { S with other := R } else { S with main := R }
def shA (S : Scr) (s : Nat) : Addr := if S.alt = true then ⟨s, 5, none⟩ else ⟨s, 3, none⟩
/-- The rows that are shown, and the way back. -/
theorem Rep.focus {h0 : Base} {h : Heap} {s : Nat} {S : Scr} (hs : Rep h0 h s S) : ∃ A a n c ks oh bs l, Own h0 h ((s, scrC S A, 69) :: (oh ++ (bs.flatten ++ l))) ∧ cellH h (shA S s) = some (.slice a n c) ∧ SlO rf 1 72 a n c ks oh ∧ RowsB ks S.sh bs ∧
    ∀ h' ks' oh' bs' R', Own h0 h' ((s, scrC S A, 69) :: (oh' ++ (bs'.flatten ++ l))) → SlO rf 1 72 a n c ks' oh' → RowsB ks' R' bs' → Rep h0 h' s (S.setSh R') := by
  obtain ⟨A, oM, oO, oP, oT, oG, oK, oL, ho, hp⟩ := hs
  by_cases ha : S.alt = true
  · obtain ⟨ks, oh, bs, rfl, h1, h2⟩ := hp.other
    refine ⟨A, A.o, A.on, A.oc, ks, oh, bs, oM ++ (oP ++ (oT ++ (oG ++ (oK ++ oL)))), ho.perm (by (classical exact List.perm_iff_count.2 (fun x => by simp only [List.count_append, List.count_cons, List.count_nil]; omega))), ?_, h1, by unfold Scr.sh; rw [if_pos ha]; exact h2, fun h' ks' oh' bs' R' ho' h1' h2' => ?_⟩
    · unfold shA
      rw [if_pos ha]
      exact ho.get0.cell 5 rfl
    · unfold Scr.setSh
      rw [if_pos ha]
      exact ⟨A, oM, oh' ++ bs'.flatten, oP, oT, oG, oK, oL, (show Own h0 h' ((s, scrC S A, 69) :: (oM ++ ((oh' ++ bs'.flatten) ++ (oP ++ (oT ++ (oG ++ (oK ++ oL))))))) from ho'.perm (by (classical exact List.perm_iff_count.2 (fun x => by simp only [List.count_append, List.count_cons, List.count_nil]; omega)))), hp.1, ⟨ks', oh', bs', rfl, h1', h2'⟩, hp.3, hp.4, hp.5, hp.6, hp.7⟩
  · obtain ⟨ks, oh, bs, rfl, h1, h2⟩ := hp.main
    refine ⟨A, A.m, A.mn, A.mc, ks, oh, bs, oO ++ (oP ++ (oT ++ (oG ++ (oK ++ oL)))), ho.perm (by (classical exact List.perm_iff_count.2 (fun x => by simp only [List.count_append, List.count_cons, List.count_nil]; omega))), ?_, h1, by unfold Scr.sh; rw [if_neg ha]; exact h2, fun h' ks' oh' bs' R' ho' h1' h2' => ?_⟩
    · unfold shA
      rw [if_neg ha]
      exact ho.get0.cell 3 rfl
    · unfold Scr.setSh
      rw [if_neg ha]
      exact ⟨A, oh' ++ bs'.flatten, oO, oP, oT, oG, oK, oL, (show Own h0 h' ((s, scrC S A, 69) :: ((oh' ++ bs'.flatten) ++ (oO ++ (oP ++ (oT ++ (oG ++ (oK ++ oL))))))) from ho'.perm (by (classical exact List.perm_iff_count.2 (fun x => by simp only [List.count_append, List.count_cons, List.count_nil]; omega)))), ⟨ks', oh', bs', rfl, h1', h2'⟩, hp.2, hp.3, hp.4, hp.5, hp.6, hp.7⟩
end Go.Proofs.YthjdnhhifjpidaaDoor.M
