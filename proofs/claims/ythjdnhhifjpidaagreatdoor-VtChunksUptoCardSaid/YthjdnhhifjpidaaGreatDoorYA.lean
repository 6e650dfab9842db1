import Derived.Test.YthjdnhhifjpidaaGreatDoorUE
set_option linter.unusedVariables false
set_option linter.unusedSimpArgs false
set_option maxRecDepth 100000
namespace Go.Proofs.YthjdnhhifjpidaaGreatDoor.M
open Go Go.Hp Go.RowKit

/-! ### A row's text -/
def GAt (h : Heap) (a : Option Addr) (n : Nat) (r : List Gl) : Prop := n = r.length ∧ ∀ i, i < n → ∃ p, a = some p ∧ ∀ j v, (gf (r.getD i gl0))[j]? = some v → cellH h ((p.add (i * 5)).add j) = some v
theorem GAt.ext {h h' : Heap} {a : Option Addr} {n : Nat} {r : List Gl} (hg : GAt h a n r) (he : Ext h h') : GAt h' a n r :=
  ⟨hg.1, fun i hi => (hg.2 i hi).imp fun p hp => ⟨hp.1, fun j v hv => he.cell (hp.2 j v hv)⟩⟩
theorem SlO.gat {h0 : Base} {h : Heap} {a : Option Addr} {n c : Nat} {r : List Gl} {o pre l : Blks} (hs : SlO gf 5 52 a n c r o) (ho : Own h0 h (pre ++ (o ++ l))) : GAt h a n r := ⟨hs.1, fun i hi => hs.get gf_len ho i gl0 hi⟩
theorem isB_ext {B b : Nat} {l : List Value} {h h' : Heap} (hb : IsB B b l h) (he : Ext h h') : IsB B b l h' := by
  intro W hW
  have key : ∀ p, Lib.BuilderAt 107 5 B b p l { World.memory W with heap := h } → Lib.BuilderAt 107 5 B b p l W := by
    intro p hp
    obtain ⟨h1, v, h2, h3, h4⟩ := hp
    have h2 : h[b]? = some (.cells #[p, v] 107 (0, 0)) := h2
    refine ⟨h1, v, ?_, ?_, h4⟩
    · rw [hW, he.2.1 b (Array.getElem?_eq_some_iff.1 h2).1]
      exact h2
    · refine ⟨h3.1, ?_⟩
      rcases h3.2 with h | ⟨g, cap, cur, e1, e2, e3, e4⟩
      · exact .inl h
      · refine .inr ⟨g, cap, cur, e1, e2, ?_, e4⟩
        have e3 : h[g]? = _ := e3
        rw [hW, he.2.1 g (Array.getElem?_eq_some_iff.1 e3).1]
        exact e3
  rcases hb { World.memory W with heap := h } rfl with h | h
  · exact .inl (key _ h)
  · exact .inr (key _ h)
def catL (r : List Gl) : List UInt8 := r.flatMap fun g => g.1.data.toList
theorem catL_len : ∀ (r : List Gl), (∀ g ∈ r, Short g) → (catL r).length ≤ 4 * r.length
  | [], _ => Nat.le_refl _
  | g :: r, hr => by
    have h1 := catL_len r fun x hx => hr x (List.mem_cons_of_mem _ hx)
    have h2 : g.1.data.toList.length ≤ 4 := hr g (List.mem_cons_self ..)
    unfold catL at h1 ⊢
    rw [List.flatMap_cons, List.length_append, List.length_cons]
    omega
theorem text_l0 {hb : Heap} {b : Nat} {a : Option Addr} {n c : Nat} {r : List Gl} {K0 : Nat → Heap → Prop} (hg : GAt hb a n r) (hr : AllR Short r) :
    ∀ (q i : Nat) (h : Heap), Ext hb h → IsB hb.size b (Lib.byteCells (catL (r.take i))) h → n - i = q → i ≤ n → (∀ h1, Ext hb h1 → IsB hb.size b (Lib.byteCells (catL r)) h1 → K0 b h1) → vt_row_text_l0 K0 (q + 1) b a n c (n : Int) i h := by
  have hn := hg.1
  have hl := hr.1
  intro q
  induction q with
  | zero =>
    intro i h he hB hq hi hk
    unfold vt_row_text_l0
    rw [if_neg (by omega)]
    rw [List.take_of_length_le (by omega)] at hB
    exact hk h he hB
  | succ q ih =>
    intro i h he hB hq hi hk
    unfold vt_row_text_l0
    rw [if_pos (by omega)]
    obtain ⟨p, rfl, d⟩ := (hg.ext he).2 i (by omega)
    have hte : ((i : Int)).toNat = i := by omega
    refine nz_i ⟨by omega, by omega, ?_⟩
    rw [hte]
    refine ⟨_, d 0 _ rfl, _, d 1 _ rfl, _, d 2 _ rfl, _, d 3 _ rfl, _, d 4 _ rfl, fun h1 he1 => ?_⟩
    have hge : r.getD i gl0 = r[i]'(by omega) := by rw [List.getD_eq_getElem?_getD, List.getElem?_eq_getElem (by omega)]; rfl
    have hs : Short (r.getD i gl0) := by rw [hge]; exact hr.2 _ (List.getElem_mem _)
    have hs : (r.getD i gl0).1.size ≤ 4 := hs
    have hlen := catL_len (r.take i) fun g hg => hr.2 g (List.mem_of_mem_take hg)
    have hti : (r.take i).length = i := by rw [List.length_take]; omega
    refine ⟨hb.size, b, _, rfl, isB_ext hB he1, ?_, Nat.le_trans he.1 he1.1, fun h2 hB2 hlow => ?_⟩
    · rw [Lib.byteCells_length]
      omega
    have he2 : Ext hb h2 := ⟨Nat.le_trans (Nat.le_trans he.1 he1.1) hlow.1, fun k hk' => (hlow.2 k hk').trans ((he.trans he1).2.1 k hk'), trivial⟩
    rw [wrap64 (by omega) (by omega), show (i : Int) + 1 = ((i + 1 : Nat) : Int) by omega]
    refine ih (i + 1) h2 he2 ?_ (by omega) (by omega) hk
    have e : Lib.byteCells (catL (r.take i)) ++ Lib.strCells (r.getD i gl0).1 = Lib.byteCells (catL (r.take (i + 1))) := by
      rw [Lib.strCells_eq, ← Lib.byteCells_append, List.take_succ_eq_append_getElem (by omega), hge]
      unfold catL
      rw [List.flatMap_append]
      simp
    rw [← e]
    exact hB2
def trimL : Nat → ByteArray → ByteArray
  | 0, s => s
  | q + 1, s => if 0 < s.size ∧ byteAt s ((s.size : Int) - 1) = 32 then trimL q (s.extract 0 ((s.size : Int) - 1).toNat) else s
theorem trim_l0 {h : Heap} {K0 : ByteArray → Heap → Prop} : ∀ (q : Nat) (s : ByteArray), s.size ≤ q → s.size ≤ 1000000 → K0 (trimL q s) h → strings_trimRightByte_l0 K0 (q + 1) s 32 h := by
  intro q
  induction q with
  | zero =>
    intro s hs hz hk
    unfold strings_trimRightByte_l0
    refine ⟨fun hd => absurd (of_decide_eq_true hd) (by omega), fun hd => absurd (of_decide_eq_true hd) (by omega), ?_⟩
    rw [if_neg (by rw [decide_eq_false (by omega)]; simp)]
    exact hk
  | succ q ih =>
    intro s hs hz hk
    unfold strings_trimRightByte_l0
    unfold trimL at hk
    by_cases h0 : 0 < s.size
    · rw [wrap64 (x := (s.size : Int) - 1) (by omega) (by omega)]
      refine ⟨fun _ => by omega, fun _ => by omega, ?_⟩
      by_cases h1 : byteAt s ((s.size : Int) - 1) = 32
      · rw [if_pos ⟨h0, h1⟩] at hk
        rw [if_pos (by rw [decide_eq_true (by omega), decide_eq_true h1]; rfl)]
        refine ⟨by omega, by omega, ih _ ?_ ?_ hk⟩
        · rw [ByteArray.size_extract]; omega
        · rw [ByteArray.size_extract]; omega
      · rw [if_neg (fun h => h1 h.2)] at hk
        rw [if_neg (by rw [decide_eq_false h1]; simp)]
        exact hk
    · rw [if_neg (fun h => h0 h.1)] at hk
      refine ⟨fun hd => absurd (of_decide_eq_true hd) (by omega), fun hd => absurd (of_decide_eq_true hd) (by omega), ?_⟩
      rw [if_neg (by rw [decide_eq_false (by omega)]; simp)]
      exact hk
def textV (r : List Gl) : ByteArray := trimL (⟨(catL r).toArray⟩ : ByteArray).size ⟨(catL r).toArray⟩
theorem text_sp {h : Heap} {a : Option Addr} {n c : Nat} {r : List Gl} {K : ByteArray → Heap → Prop} (hg : GAt h a n r) (hr : AllR Short r) (hk : ∀ h1, Ext h h1 → K (textV r) h1) : vt_row_text a n c K h := by
  unfold vt_row_text
  show ∃ k48, _
  have hl := hr.1
  have hclen := catL_len r hr.2
  refine ⟨n + 1, ?_⟩
  have he : Ext h (h.push (.cells #[.pointer none, .slice none 0 0] 107)) := Ext.push h _ _
  have hB : IsB h.size h.size (Lib.byteCells (catL (r.take 0))) (h.push (.cells #[.pointer none, .slice none 0 0] 107)) := by
    intro W hW
    refine .inl ⟨Nat.le_refl _, .slice none 0 0, ?_, World.ownsRow_nil _ _ _ _, by simp [Value.ownBlock]⟩
    rw [hW]
    simp
  refine text_l0 hg hr n 0 _ he hB (by omega) (by omega) fun h1 he1 hB1 => ?_
  refine ⟨h.size, h.size, catL r, rfl, hB1, he1.1, fun h2 hlow => ?_⟩
  have he2 : Ext h h2 := ⟨Nat.le_trans he1.1 hlow.1, fun k hk' => (hlow.2 k hk').trans (he1.2.1 k hk'), trivial⟩
  unfold strings_TrimRight
  simp only [lst_eq]
  have hsz : (⟨(catL r).toArray⟩ : ByteArray).size = (catL r).length := by show (catL r).toArray.size = _; simp
  by_cases h3 : (⟨(catL r).toArray⟩ : ByteArray) = ⟨#[]⟩
  · rw [if_pos (by rw [decide_eq_true h3]; rfl)]
    have : textV r = ⟨(catL r).toArray⟩ := by
      unfold textV
      rw [h3]
      rfl
    rw [← this]
    exact hk h2 he2
  rw [if_neg (by rw [decide_eq_false h3]; decide), if_pos (by decide)]
  refine ⟨by decide, ?_⟩
  rw [if_pos (by decide)]
  refine ⟨by decide, ?_⟩
  unfold strings_trimRightByte
  exact ⟨(⟨(catL r).toArray⟩ : ByteArray).size + 1, trim_l0 _ _ (Nat.le_refl _) (by omega) (hk h2 he2)⟩

/-! ### The texts of all rows -/
def RAt (h : Heap) (a : Option Addr) (n : Nat) (R : List (List Gl)) : Prop := n = R.length ∧ ∀ i, i < n → ∃ p a' n' c', a = some p ∧ cellH h (p.add (i * 1)) = some (.slice a' n' c') ∧ GAt h a' n' (R.getD i [])
theorem rows_at {h0 : Base} {h : Heap} {a : Option Addr} {n c : Nat} {R : List (List Gl)} {o pre l : Blks} (hr : RowsR a n c R o) (ho : Own h0 h (pre ++ (o ++ l))) : RAt h a n R := by
  obtain ⟨ks, oh, bs, rfl, h1, k1, k2, k3⟩ := hr
  have hn := h1.1
  refine ⟨by omega, fun i hi => ?_⟩
  have hoH : Own h0 h (pre ++ (oh ++ (bs.flatten ++ l))) := by simpa using ho
  obtain ⟨p, hp, d⟩ := SlO.get rf_len h1 hoH i (none, 0, 0) hi
  have hb := hoH
  rw [fl_split bs i (by omega)] at hb
  have hb2 : Own h0 h ((pre ++ (oh ++ (bs.take i).flatten)) ++ (bs.getD i [] ++ ((bs.drop (i + 1)).flatten ++ l))) := hb.perm (by exact pc)
  exact ⟨p, _, _, _, hp, d 0 _ rfl, SlO.gat (k3 i (by omega)) hb2⟩
abbrev sf (s : ByteArray) : List Value := [.string s]
theorem sf_len (s : ByteArray) : (sf s).length = 1 := rfl
theorem lines_l0 {h0 : Base} {L : Blks} {s : Addr} {pa : Option Addr} {n pc : Nat} {R : List (List Gl)} {K0 : Addr → Option Addr → Nat → Nat → Heap → Prop} (hR : ∀ h o, Own h0 h (L ++ (o ++ [])) → RAt h pa n R) (hT : AllS Short R) (hn : n ≤ 100000) :
    ∀ (q i : Nat) (h : Heap) (oa : Option Addr) (on oc : Nat) (out : List ByteArray) (o : Blks), Own h0 h (L ++ (o ++ [])) → SlO sf 1 9 oa on oc out o → on ≤ i → n - i = q → i ≤ n →
      (∀ h' oa' on' oc' o', Own h0 h' (L ++ (o' ++ [])) → SlO sf 1 9 oa' on' oc' (out ++ (R.drop i).map textV) o' → K0 s oa' on' oc' h') → vt_Screen_Lines_l0 K0 (q + 1) s oa on oc pa n pc (n : Int) i h := by
  intro q
  induction q with
  | zero =>
    intro i h oa on oc out o ho hs hon hq hi hk
    unfold vt_Screen_Lines_l0
    rw [if_neg (by omega)]
    have hl := (hR h o ho).1
    rw [List.drop_of_length_le (by omega)] at hk
    exact hk h oa on oc o ho (by simpa using hs)
  | succ q ih =>
    intro i h oa on oc out o ho hs hon hq hi hk
    unfold vt_Screen_Lines_l0
    rw [if_pos (by omega)]
    obtain ⟨hl, hd⟩ := hR h o ho
    obtain ⟨p, a', n', c', rfl, hc, hg⟩ := hd i (by omega)
    have hte : ((i : Int)).toNat = i := by omega
    refine nz_i ⟨by omega, by omega, ⟨_, _, _, by rw [hte]; exact hc, ?_⟩⟩
    refine text_sp hg (allS_getD hT i) fun h1 he1 h2 he2 => ?_
    have ho2 := ho.gap (he1.trans he2)
    refine SlO.app (f := sf) (sz := 1) (js := [textV (R.getD i [])]) sf_len rfl hs ho2 (by simp only [List.length_singleton]; omega) (by simp only [List.length_singleton]; omega) fun a2 c2 o2 h3 ho3 hs3 => ?_
    rw [wrap64 (by omega) (by omega), show (i : Int) + 1 = ((i + 1 : Nat) : Int) by omega]
    refine ih (i + 1) h3 a2 (on + 1) c2 _ o2 ho3 hs3 (by omega) (by omega) (by omega) fun h' oa' on' oc' o' g1 g2 => hk h' oa' on' oc' o' g1 ?_
    rw [List.drop_eq_getElem_cons (by omega), List.map_cons]
    have e : R.getD i [] = R[i]'(by omega) := by rw [List.getD_eq_getElem?_getD, List.getElem?_eq_getElem (by omega)]; rfl
    rw [← e]
    simpa using g2
theorem lines_l2 {h0 : Base} {L : Blks} {pa : Option Addr} {n pc : Nat} {R : List (List Gl)} {K0 : Option Addr → Nat → Nat → Heap → Prop} (hR : ∀ h o, Own h0 h (L ++ (o ++ [])) → RAt h pa n R) (hT : AllS Short R) (hn : n ≤ 100000) :
    ∀ (q i : Nat) (h : Heap) (oa : Option Addr) (on oc : Nat) (out : List ByteArray) (o : Blks), Own h0 h (L ++ (o ++ [])) → SlO sf 1 9 oa on oc out o → on ≤ i + 100000 → n - i = q → i ≤ n →
      (∀ h' oa' on' oc' o', Own h0 h' (L ++ (o' ++ [])) → SlO sf 1 9 oa' on' oc' (out ++ (R.drop i).map textV) o' → K0 oa' on' oc' h') → vt_Screen_Lines_l2 K0 (q + 1) oa on oc pa n pc (n : Int) i h := by
  intro q
  induction q with
  | zero =>
    intro i h oa on oc out o ho hs hon hq hi hk
    unfold vt_Screen_Lines_l2
    rw [if_neg (by omega)]
    have hl := (hR h o ho).1
    rw [List.drop_of_length_le (by omega)] at hk
    exact hk h oa on oc o ho (by simpa using hs)
  | succ q ih =>
    intro i h oa on oc out o ho hs hon hq hi hk
    unfold vt_Screen_Lines_l2
    rw [if_pos (by omega)]
    obtain ⟨hl, hd⟩ := hR h o ho
    obtain ⟨p, a', n', c', rfl, hc, hg⟩ := hd i (by omega)
    have hte : ((i : Int)).toNat = i := by omega
    refine nz_i ⟨by omega, by omega, ⟨_, _, _, by rw [hte]; exact hc, ?_⟩⟩
    refine text_sp hg (allS_getD hT i) fun h1 he1 h2 he2 => ?_
    have ho2 := ho.gap (he1.trans he2)
    refine SlO.app (f := sf) (sz := 1) (js := [textV (R.getD i [])]) sf_len rfl hs ho2 (by simp only [List.length_singleton]; omega) (by simp only [List.length_singleton]; omega) fun a2 c2 o2 h3 ho3 hs3 => ?_
    rw [wrap64 (by omega) (by omega), show (i : Int) + 1 = ((i + 1 : Nat) : Int) by omega]
    refine ih (i + 1) h3 a2 (on + 1) c2 _ o2 ho3 hs3 (by omega) (by omega) (by omega) fun h' oa' on' oc' o' g1 g2 => hk h' oa' on' oc' o' g1 ?_
    rw [List.drop_eq_getElem_cons (by omega), List.map_cons]
    have e : R.getD i [] = R[i]'(by omega) := by rw [List.getD_eq_getElem?_getD, List.getElem?_eq_getElem (by omega)]; rfl
    rw [← e]
    simpa using g2
def linesV (S : Scr) : List ByteArray := (if S.alt = false then S.past.map textV else []) ++ S.sh.map textV
theorem Lines_sp {h0 : Base} {h : Heap} {s : Nat} {S : Scr} {K : Option Addr → Nat → Nat → Heap → Prop} (hs : Rep h0 h s S) (ok : Ok S) (f : Gs Short S) (hk : ∀ a n c o h1, RepX h0 h1 s S o → SlO sf 1 9 a n c (linesV S) o → K a n c h1) : vt_Screen_Lines (some ⟨s, 0, none⟩) K h := by
  have hh1 := ok.d.h1
  have hm1 := ok.d.m1
  have hpl := ok.d.past
  have hsh := ok.d.sh
  obtain ⟨A, oM, oO, oP, oT, oG, oK, oL, ho, hp⟩ := hs
  have hX : ∀ h' o, Own h0 h' (((s, scrC S A, 80) :: (oM ++ (oO ++ (oP ++ (oT ++ (oG ++ (oK ++ oL))))))) ++ (o ++ [])) → RepX h0 h' s S o := fun h' o ho' => ⟨A, oM, oO, oP, oT, oG, oK, oL, by simpa using ho', hp⟩
  have hP : ∀ h' o, Own h0 h' (((s, scrC S A, 80) :: (oM ++ (oO ++ (oP ++ (oT ++ (oG ++ (oK ++ oL))))))) ++ (o ++ [])) → RAt h' A.p A.pn S.past := fun h' o ho' => by
    have : Own h0 h' (((s, scrC S A, 80) :: (oM ++ oO)) ++ (oP ++ (oT ++ (oG ++ (oK ++ (oL ++ o)))))) := by simpa using ho'
    exact rows_at hp.past this
  have hM : ∀ h' o, Own h0 h' (((s, scrC S A, 80) :: (oM ++ (oO ++ (oP ++ (oT ++ (oG ++ (oK ++ oL))))))) ++ (o ++ [])) → RAt h' A.m A.mn S.main := fun h' o ho' => by
    have : Own h0 h' ([(s, scrC S A, 80)] ++ (oM ++ (oO ++ (oP ++ (oT ++ (oG ++ (oK ++ (oL ++ o)))))))) := by simpa using ho'
    exact rows_at hp.main this
  have hO : ∀ h' o, Own h0 h' (((s, scrC S A, 80) :: (oM ++ (oO ++ (oP ++ (oT ++ (oG ++ (oK ++ oL))))))) ++ (o ++ [])) → RAt h' A.o A.on S.other := fun h' o ho' => by
    have : Own h0 h' (((s, scrC S A, 80) :: oM) ++ (oO ++ (oP ++ (oT ++ (oG ++ (oK ++ (oL ++ o))))))) := by simpa using ho'
    exact rows_at hp.other this
  have ho0 : Own h0 h (((s, scrC S A, 80) :: (oM ++ (oO ++ (oP ++ (oT ++ (oG ++ (oK ++ oL))))))) ++ ([] ++ [])) := by simpa using ho
  have j1 : ∀ (h' : Heap) (oa : Option Addr) (on oc : Nat) (out : List ByteArray) (o : Blks), Own h0 h' (((s, scrC S A, 80) :: (oM ++ (oO ++ (oP ++ (oT ++ (oG ++ (oK ++ oL))))))) ++ (o ++ [])) → SlO sf 1 9 oa on oc out o → on ≤ 100000 → linesV S = out ++ S.sh.map textV →
      vt_Screen_Lines_j1 K ⟨s, 0, none⟩ oa on oc h' := by
    intro h' oa on oc out o ho' hs' hon hout
    unfold vt_Screen_Lines_j1
    have fin : ∀ (a : Option Addr) (n c : Nat), (∀ h o, Own h0 h (((s, scrC S A, 80) :: (oM ++ (oO ++ (oP ++ (oT ++ (oG ++ (oK ++ oL))))))) ++ (o ++ [])) → RAt h a n S.sh) → ∃ k71, vt_Screen_Lines_l2 (fun z67 z67n z67c h68 => K z67 z67n z67c h68) k71 oa on oc a n c (n : Int) 0 h' := by
      intro a n c hR
      have hl := (hR h' o ho').1
      refine ⟨n + 1, lines_l2 hR f.sh (by omega) n 0 h' oa on oc out o ho' hs' (by omega) (by omega) (by omega) fun h2 a2 n2 c2 o2 ho2 hs2 => ?_⟩
      refine hk a2 n2 c2 o2 h2 (hX h2 o2 ho2) ?_
      rw [hout]
      exact hs2
    have hb : Own h0 h' ((s, scrC S A, 80) :: (oM ++ (oO ++ (oP ++ (oT ++ (oG ++ (oK ++ (oL ++ o)))))))) := by simpa using ho'
    refine shown_o hb rfl (fun ha => nz_i ?_) (fun ha => nz_i ?_)
    · refine ldL0 hb rfl (fin _ _ _ ?_)
      intro h o ho
      unfold Scr.sh
      rw [if_pos ha]
      exact hO h o ho
    · refine ldL0 hb rfl (fin _ _ _ ?_)
      intro h o ho
      unfold Scr.sh
      rw [if_neg (by rw [ha]; decide)]
      exact hM h o ho
  unfold vt_Screen_Lines
  refine nz_i ?_
  simp only [add0, Nat.zero_add]
  refine ldB0 ho rfl ?_
  show if (!S.alt) = true then _ else _
  by_cases ha : S.alt = false
  · rw [if_pos (by rw [ha]; rfl)]
    refine ldL0 ho rfl ?_
    have hl := (hP h [] ho0).1
    refine ⟨A.pn + 1, lines_l0 hP f.p (by omega) A.pn 0 h none 0 0 [] [] ho0 SlO.nil (by omega) (by omega) (by omega) fun h2 a2 n2 c2 o2 ho2 hs2 => ?_⟩
    have hn2 := hs2.1
    simp only [List.nil_append, List.drop_zero, List.length_map] at hn2
    refine j1 h2 a2 n2 c2 _ o2 ho2 hs2 (by omega) ?_
    unfold linesV
    rw [if_pos ha]
    rfl
  · rw [if_neg (by simpa using ha)]
    refine j1 h none 0 0 [] [] ho0 SlO.nil (by omega) ?_
    unfold linesV
    rw [if_neg ha]
end Go.Proofs.YthjdnhhifjpidaaGreatDoor.M
set_option maxRecDepth 100000
namespace Go.Proofs.YthjdnhhifjpidaaGreatDoor.M
open Go Go.Hp

/-! ### What was sent back plays no part -/
def setAns (S : Scr) (a : ByteArray) : Scr := { S with answer := a }
theorem cm_ite {c : Prop} [Decidable c] {x y x' y' : Scr} {a : ByteArray} (hx : x' = setAns x a) (hy : y' = setAns y a) : (if c then x' else y') = setAns (if c then x else y) a := by
  by_cases h : c
  · rw [if_pos h, if_pos h]; exact hx
  · rw [if_neg h, if_neg h]; exact hy
section
variable (S : Scr) (a : ByteArray)
theorem setSh_c (R : List (List Gl)) : (setAns S a).setSh R = setAns (S.setSh R) a := cm_ite rfl rfl
theorem keepOne_c (t : Int) (k : Bool) : keepOne (setAns S a) t k = setAns (keepOne S t k) a := cm_ite (cm_ite rfl rfl) rfl
theorem upOne_c (t b : Int) : upOne (setAns S a) t b = setAns (upOne S t b) a := setSh_c S a _
theorem upL_c (t b : Int) (k : Bool) : ∀ (n : Nat) (S : Scr) (a : ByteArray), upL t b k n (setAns S a) = setAns (upL t b k n S) a
  | 0, _, _ => rfl
  | n + 1, S, a => by
    show upL t b k n (upOne (keepOne (setAns S a) t k) t b) = _
    rw [keepOne_c, upOne_c]
    exact upL_c t b k n _ a
theorem up_c (t b n : Int) (k : Bool) : upV (setAns S a) t b n k = setAns (upV S t b n k) a := upL_c t b k _ S a
theorem feed_c : feedV (setAns S a) = setAns (feedV S) a := cm_ite (congrArg unwait (up_c S a S.top S.bottom 1 true)) (cm_ite rfl rfl)
theorem open_c (n : Int) : openV (setAns S a) n = setAns (openV S n) a := setSh_c S a _
theorem ahead_c (n : Int) : ahead (setAns S a) n = setAns (ahead S n) a := cm_ite rfl rfl
theorem put_c (c n : Int) : putV (setAns S a) c n = setAns (putV S c n) a := (congrArg (fun x => ahead x n) (setSh_c S a _)).trans (ahead_c _ a n)
theorem write3_c (c n t : Int) : write3 (setAns S a) c n t = setAns (write3 S c n t) a :=
  cm_ite ((congrArg (fun x => putV x c n) (open_c (setLast S t) a n)).trans (put_c _ a c n)) (put_c (setLast S t) a c n)
theorem write3f_c (c n t : Int) : write3 (feedV (setX (setAns S a) 0)) c n t = setAns (write3 (feedV (setX S 0)) c n t) a :=
  (congrArg (fun x => write3 x c n t) (feed_c (setX S 0) a)).trans (write3_c _ a c n t)
theorem write2_c (c n t : Int) : write2 (setAns S a) c n t = setAns (write2 S c n t) a := cm_ite (cm_ite (cm_ite rfl (cm_ite rfl (write3f_c S a c n t))) (write3_c S a c n t)) (write3_c S a c n t)
theorem write1_c (c n t : Int) : write1 (setAns S a) c n t = setAns (write1 S c n t) a :=
  cm_ite (cm_ite ((congrArg (fun x => write2 x c n t) (feed_c (setX S 0) a)).trans (write2_c _ a c n t)) (write2_c S a c n t)) (write2_c S a c n t)
theorem write_c (c : Int) : writeV (setAns S a) c = setAns (writeV S c) a := cm_ite rfl (cm_ite (write1_c S a _ _ _) (write1_c S a _ _ _))
theorem broken_c : brokenV (setAns S a) = setAns (brokenV S) a := cm_ite (write_c (noHave S) a 65533) rfl
theorem named_c : namedV (setAns S a) = setAns (namedV S) a := cm_ite (cm_ite (cm_ite rfl rfl) (cm_ite (cm_ite rfl rfl) rfl)) rfl
theorem esc_c : escV (setAns S a) = setAns (escV S) a := by
  unfold escV
  rw [broken_c]
  have : (if (setAns (brokenV S) a).state = 3 then namedV (setAns (brokenV S) a) else setAns (brokenV S) a) = setAns (if (brokenV S).state = 3 then namedV (brokenV S) else brokenV S) a := cm_ite (named_c _ a) rfl
  rw [this]
  rfl
end

/-! ### ESC [ 6 n: where is the cursor -/
def asked (S : Scr) : Scr := { escV S with state := 0, gathered := [54], over := false }
def reply (S : Scr) : ByteArray := toldV (asked S) (whereV (asked S))
theorem asked_c (S : Scr) (a : ByteArray) : asked (setAns S a) = setAns (asked S) a := by
  unfold asked
  rw [esc_c]
  rfl
theorem reply_c (S : Scr) (a : ByteArray) : reply (setAns S a) = reply S := by
  unfold reply
  rw [asked_c]
  rfl
theorem ask_eq (S : Scr) : strV S ⟨#[27, 91, 54, 110]⟩ = sendsV (asked S) (reply S) := by
  show byteV (byteV (byteV (byteV S 27) 91) 54) 110 = _
  have e1 : byteV S 27 = escV S := by
    unfold byteV
    rw [if_neg (by decide), if_pos rfl]
  rw [e1]
  have e2 : byteV (escV S) 91 = beginV (escV S) 2 := by
    have hst : (escV S).state = 1 := rfl
    have hg : (escV S).gathered = [] := rfl
    unfold byteV
    rw [if_neg (by decide), if_neg (by decide), if_neg (by rw [hst]; decide), if_pos hst]
    unfold escapeV
    rw [if_pos (by rw [hg]; decide)]
  rw [e2]
  have e3 : byteV (beginV (escV S) 2) 54 = { escV S with state := 2, gathered := [54], over := false } := by
    have hst : (beginV (escV S) 2).state = 2 := rfl
    have hg : (beginV (escV S) 2).gathered = [] := rfl
    unfold byteV
    rw [if_neg (by decide), if_neg (by decide), if_neg (by rw [hst]; decide), if_neg (by rw [hst]; decide), if_pos hst]
    unfold sequenceV
    rw [if_neg (by decide), if_pos (by decide)]
    unfold gatherV
    rw [if_neg (by rw [hg]; decide)]
    rfl
  rw [e3]
  have hst : ({ escV S with state := 2, gathered := [54], over := false } : Scr).state = 2 := rfl
  unfold byteV
  rw [if_neg (by decide), if_neg (by decide), if_neg (by rw [hst]; decide), if_neg (by rw [hst]; decide), if_pos hst]
  unfold sequenceV
  rw [if_neg (by decide), if_neg (by decide), if_pos (by decide), if_pos rfl]
  show controlledV (asked S) 110 = _
  have hn : numbersV (asked S).gathered = (0, [6], ⟨#[]⟩, true) := by
    show numbersV [54] = _
    kernel_rfl
  unfold controlledV
  rw [hn, if_pos rfl, if_neg (by decide), if_neg (by decide), if_pos (by decide)]
  unfold plainV plain1
  rw [if_neg (by decide), if_neg (by decide), if_neg (by decide), if_neg (by decide), if_neg (by decide), if_neg (by decide)]
  unfold plain2
  rw [if_neg (by decide), if_neg (by decide), if_neg (by decide), if_neg (by decide), if_neg (by decide)]
  unfold plain4
  rw [if_neg (by decide), if_neg (by decide), if_neg (by decide), if_neg (by decide), if_neg (by decide)]
  unfold othersV
  rw [if_neg (by decide), if_neg (by decide)]
  unfold others1
  rw [if_neg (by decide), if_neg (by decide), if_pos rfl]
  unfold tellsV
  rw [if_neg (by decide), if_pos (by decide)]
  rfl
/-- What is sent back behind what was there: it is laid on if there is room. -/
def laidOn (a r : ByteArray) : ByteArray := if a.size + r.size ≤ 4096 then a ++ r else a
theorem ask_ans (S : Scr) (a : ByteArray) : strV (setAns S a) ⟨#[27, 91, 54, 110]⟩ = setAns (asked S) (laidOn a (reply S)) := by
  rw [ask_eq, asked_c, reply_c]
  unfold sendsV laidOn
  show (if a.size + (reply S).size ≤ 4096 then setAns (asked S) (a ++ reply S) else setAns (asked S) a) = _
  split <;> rfl
theorem reply_size {S : Scr} (o : Ok S) : (reply S).size ≤ 4096 := by
  have oa : Ok (escV S) := o.esc
  have x0 := oa.c.p.x0
  have x1 := oa.c.p.x1
  have y0 := oa.c.p.y0
  have y1 := oa.c.p.y1
  have w1 := oa.d.w1
  have h1 := oa.d.h1
  have t0 := oa.c.t0
  have tb := oa.c.tb
  have bh := oa.c.bh
  have hw : -1000 ≤ whereV (asked S) ∧ whereV (asked S) ≤ 1010 := by
    unfold whereV
    show -1000 ≤ (if (escV S).pl.origin = true then (escV S).pl.y + 1 - (escV S).top else (escV S).pl.y + 1) ∧ (if (escV S).pl.origin = true then (escV S).pl.y + 1 - (escV S).top else (escV S).pl.y + 1) ≤ 1010
    split <;> omega
  unfold reply toldV
  have z1 := itoaV_size (whereV (asked S)) hw.1 hw.2
  have z2 := itoaV_size ((asked S).pl.x + 1) (by show -1000 ≤ (escV S).pl.x + 1; omega) (by show (escV S).pl.x + 1 ≤ 1010; omega)
  have t1 : (⟨#[27, 91]⟩ : ByteArray).size = 2 := rfl
  have t2 : (⟨#[59]⟩ : ByteArray).size = 1 := rfl
  have t3 : (⟨#[82]⟩ : ByteArray).size = 1 := rfl
  simp only [ByteArray.size_append]
  omega
end Go.Proofs.YthjdnhhifjpidaaGreatDoor.M
set_option maxRecDepth 100000
namespace Go.Proofs.YthjdnhhifjpidaaGreatDoor.M
open Go Go.Hp

/-! ### A screen as one of several -/
def Is (s : Nat) (S : Scr) (L : Blks) : Prop := ∀ (h0 : Base) (h' : Heap) (X' : Blks), Own h0 h' (L ++ X') → RepX h0 h' s S X'
theorem RepX.is {h0 : Base} {h : Heap} {s : Nat} {S : Scr} {X : Blks} (hs : RepX h0 h s S X) : ∃ L, Own h0 h (L ++ X) ∧ Is s S L := by
  obtain ⟨A, oM, oO, oP, oT, oG, oK, oL, ho, hp⟩ := hs
  exact ⟨(s, scrC S A, 80) :: (oM ++ (oO ++ (oP ++ (oT ++ (oG ++ (oK ++ oL)))))), by simpa using ho, fun h0 h' X' ho' => ⟨A, oM, oO, oP, oT, oG, oK, oL, by simpa using ho', hp⟩⟩
theorem Is.on {h0 : Base} {h : Heap} {s : Nat} {S : Scr} {L X : Blks} (hi : Is s S L) (ho : Own h0 h (L ++ X)) : Rep ⟨h0.h, X ++ h0.X⟩ h s S := (hi h0 h X ho).fix
theorem Is.off {h0 : Base} {h : Heap} {s : Nat} {S : Scr} {X Y : Blks} (hs : RepX ⟨h0.h, X ++ h0.X⟩ h s S Y) : ∃ L, Own h0 h (L ++ (Y ++ X)) ∧ Is s S L := hs.unfixX.is
theorem Answer_sp {h0 : Base} {h : Heap} {s : Nat} {S : Scr} {K : ByteArray → Heap → Prop} (hs : Rep h0 h s S) (hk : ∀ h1, Rep h0 h1 s (setAns S ⟨#[]⟩) → K S.answer h1) : vt_Screen_Answer (some ⟨s, 0, none⟩) K h := by
  obtain ⟨A, oM, oO, oP, oT, oG, oK, oL, ho, hp⟩ := hs
  unfold vt_Screen_Answer
  refine nz_i ?_
  simp only [add0, Nat.zero_add]
  refine ldS0 ho rfl ?_
  refine st0 ho rfl fun h1 ho1 => hk h1 ?_
  have ho1 := own_cs (c' := scrC (setAns S ⟨#[]⟩) A) ho1 (by kernel_rfl)
  exact ⟨A, oM, oO, oP, oT, oG, oK, oL, ho1, hp.1, hp.2, hp.3, hp.4, hp.5, hp.6, hp.7⟩
theorem History_sp {h0 : Base} {h : Heap} {s : Nat} {S : Scr} {K : Int → Heap → Prop} (hs : Rep h0 h s S) (hk : K (S.past.length : Int) h) : vt_Screen_History (some ⟨s, 0, none⟩) K h := by
  obtain ⟨A, oM, oO, oP, oT, oG, oK, oL, ho, hp⟩ := hs
  unfold vt_Screen_History
  refine nz_i ?_
  simp only [add0, Nat.zero_add]
  refine ldL0 ho rfl ?_
  obtain ⟨ks, oh, bs, _, h1, k1, _⟩ := hp.past
  have : A.pn = S.past.length := h1.1.trans k1
  rw [this]
  exact hk
theorem texts_l0 {h : Heap} {a1 a2 : Option Addr} {n c1 c2 : Nat} {ks : List ByteArray} {K0 : Heap → Prop} {Kr : Bool → Heap → Prop}
    (d1 : ∀ i, i < n → ∃ p, a1 = some p ∧ ∀ j v, (sf (ks.getD i ⟨#[]⟩))[j]? = some v → cellH h ((p.add (i * 1)).add j) = some v)
    (d2 : ∀ i, i < n → ∃ p, a2 = some p ∧ ∀ j v, (sf (ks.getD i ⟨#[]⟩))[j]? = some v → cellH h ((p.add (i * 1)).add j) = some v) (hn : n ≤ 2000000) (hk : K0 h) :
    ∀ (q i : Nat), n - i = q → i ≤ n → law19_sameTexts_l0 K0 Kr (q + 1) a1 n c1 a2 n c2 i h := by
  intro q
  induction q with
  | zero =>
    intro i hq hi
    unfold law19_sameTexts_l0
    rw [if_neg (by omega)]
    exact hk
  | succ q ih =>
    intro i hq hi
    unfold law19_sameTexts_l0
    rw [if_pos (by omega)]
    obtain ⟨p, hp, e1⟩ := d1 i (by omega)
    obtain ⟨p', hp', e2⟩ := d2 i (by omega)
    have hte : ((i : Int)).toNat = i := by omega
    subst hp hp'
    refine nz_i ⟨by omega, by omega, ?_⟩
    rw [hte]
    refine ldS_c (e1 0 _ rfl) ?_
    refine nz_i ⟨by omega, by omega, ?_⟩
    refine ldS_c (e2 0 _ rfl) ?_
    rw [if_neg (by rw [lst_eq]; simp)]
    rw [wrap64 (by omega) (by omega), show (i : Int) + 1 = ((i + 1 : Nat) : Int) by omega]
    exact ih (i + 1) (by omega) (by omega)
theorem texts_sp {h0 : Base} {h : Heap} {X o1 o2 : Blks} {a1 a2 : Option Addr} {n1 n2 c1 c2 : Nat} {ks : List ByteArray} {K : Bool → Heap → Prop} (ho : Own h0 h (o1 ++ (o2 ++ X))) (s1 : SlO sf 1 9 a1 n1 c1 ks o1) (s2 : SlO sf 1 9 a2 n2 c2 ks o2) (hl : ks.length ≤ 2000000) (hk : K true h) : law19_sameTexts a1 n1 c1 a2 n2 c2 K h := by
  have e1 := s1.1
  have e2 := s2.1
  have e : n2 = n1 := by omega
  subst e
  unfold law19_sameTexts
  rw [if_pos rfl]
  have hoA : Own h0 h ([] ++ (o1 ++ (o2 ++ X))) := ho
  exact ⟨n2 + 1, texts_l0 (fun i hi => s1.get sf_len hoA i ⟨#[]⟩ hi) (fun i hi => s2.get sf_len ho i ⟨#[]⟩ hi) (by omega) hk n2 0 (by omega) (by omega)⟩
theorem linesV_len {S : Scr} (o : Ok S) : (linesV S).length ≤ 2000000 := by
  have h1 := o.d.past
  have h2 := o.d.m1
  have h3 := o.d.sh.1
  have h4 := o.d.h1
  unfold linesV
  rw [List.length_append, List.length_map]
  split
  · rw [List.length_map]; omega
  · simp only [List.length_nil]; omega
theorem flat_sh {S : Scr} (o : Ok S) : S.sh.flatten.length ≤ 2000000 := by
  have h3 := o.d.sh
  have h4 := o.d.h1
  have h5 := o.d.w1
  have key : ∀ R : List (List Gl), (∀ g ∈ R, (g.length : Int) = S.w) → R.flatten.length ≤ R.length * 1000 := by
    intro R
    induction R with
    | nil => intro _; simp
    | cons r R ih =>
      intro hR
      have a := ih fun g hg => hR g (List.mem_cons_of_mem _ hg)
      have b := hR r (List.mem_cons_self ..)
      rw [List.flatten_cons, List.length_append, List.length_cons]
      omega
  have := key S.sh h3.2
  omega

/-! ### Two screens of one content are alike -/
theorem alike_sp {h0 : Base} {h : Heap} {X Ls Lt : Blks} {s t : Nat} {S : Scr} {K : Bool → Heap → Prop} (is : Is s S Ls) (it : Is t S Lt) (o : Ok S) (f : Gs Short S) (ho : Own h0 h (Ls ++ (Lt ++ X)))
    (hk : ∀ h1 Ls' Lt', Is s (setAns S ⟨#[]⟩) Ls' → Is t (setAns S ⟨#[]⟩) Lt' → Own h0 h1 (Ls' ++ (Lt' ++ X)) → K true h1) : law19_alike (some ⟨s, 0, none⟩) (some ⟨t, 0, none⟩) K h := by
  unfold law19_alike
  refine Picture_sp (is.on ho) o fun a1 n1 c1 o1 h1 hs1 sl1 => ?_
  obtain ⟨L1, ho1, i1⟩ := Is.off hs1
  have ho1 : Own h0 h1 (Lt ++ (L1 ++ (o1 ++ X))) := ho1.perm (by exact pc)
  refine Picture_sp (it.on ho1) o fun a2 n2 c2 o2 h2 hs2 sl2 => ?_
  obtain ⟨L2, ho2, i2⟩ := Is.off hs2
  have ho2 : Own h0 h2 (o1 ++ (o2 ++ (L1 ++ (L2 ++ X)))) := ho2.perm (by exact pc)
  refine same_sp ho2 sl1 sl2 (flat_sh o) fun h3 ho3 => ?_
  rw [if_pos rfl]
  have hoS : Own h0 h3 (L1 ++ (L2 ++ X)) := (ho3.sub (List.sublist_append_right _ _)).sub (List.sublist_append_right _ _)
  have hoT : Own h0 h3 (L2 ++ (L1 ++ X)) := hoS.perm (by exact pc)
  have rs := i1.on hoS
  have rt := i2.on hoT
  unfold vt_Screen_Bells vt_Screen_App vt_Screen_Bracket vt_Screen_Alternate
  refine nz_i ?_
  simp only [add0, Nat.zero_add]
  refine rs.ldi (v := S.bells) (fun A => rfl) (nz_i ?_)
  simp only [add0, Nat.zero_add]
  refine rt.ldi (v := S.bells) (fun A => rfl) ?_
  rw [if_pos rfl]
  refine History_sp rs (History_sp rt ?_)
  rw [if_pos rfl]
  refine nz_i ?_
  simp only [add0, Nat.zero_add]
  refine rs.ldb (v := S.app) (fun A => rfl) (nz_i ?_)
  simp only [add0, Nat.zero_add]
  refine rt.ldb (v := S.app) (fun A => rfl) ?_
  rw [if_pos (by simp)]
  refine nz_i ?_
  simp only [add0, Nat.zero_add]
  refine rs.ldb (v := S.bracket) (fun A => rfl) (nz_i ?_)
  simp only [add0, Nat.zero_add]
  refine rt.ldb (v := S.bracket) (fun A => rfl) ?_
  rw [if_pos (by simp)]
  refine nz_i ?_
  simp only [add0, Nat.zero_add]
  refine rs.ldb (v := S.alt) (fun A => rfl) (nz_i ?_)
  simp only [add0, Nat.zero_add]
  refine rt.ldb (v := S.alt) (fun A => rfl) ?_
  rw [if_pos (by simp)]
  refine Lines_sp rs o f fun a3 n3 c3 o3 h4 hs4 sl3 => ?_
  obtain ⟨L3, ho4, i3⟩ := Is.off hs4
  have ho4 : Own h0 h4 (L2 ++ (L3 ++ (o3 ++ X))) := ho4.perm (by exact pc)
  refine Lines_sp (i2.on ho4) o f fun a4 n4 c4 o4 h5 hs5 sl4 => ?_
  obtain ⟨L4, ho5, i4⟩ := Is.off hs5
  have ho5a : Own h0 h5 (o3 ++ (o4 ++ (L3 ++ (L4 ++ X)))) := ho5.perm (by exact pc)
  refine texts_sp ho5a sl3 sl4 (linesV_len o) ?_
  rw [if_pos rfl]
  have hoS : Own h0 h5 (L3 ++ (L4 ++ X)) := (ho5a.sub (List.sublist_append_right _ _)).sub (List.sublist_append_right _ _)
  refine Answer_sp (i3.on hoS) fun h6 hs6 => ?_
  obtain ⟨L5, ho6, i5⟩ := Is.off hs6.toX
  have ho6 : Own h0 h6 (L4 ++ (L5 ++ X)) := ho6.perm (by exact pc)
  refine Answer_sp (i4.on ho6) fun h7 hs7 => ?_
  obtain ⟨L6, ho7, i6⟩ := Is.off hs7.toX
  have : (S.answer.toList == S.answer.toList) = true := by rw [lst_eq]; simp
  rw [this]
  exact hk h7 L5 L6 i5 i6 (ho7.perm (by exact pc))
end Go.Proofs.YthjdnhhifjpidaaGreatDoor.M
set_option maxRecDepth 100000
namespace Go.Proofs.YthjdnhhifjpidaaGreatDoor.M
open Go Go.Hp

/-! ### Bytes in pieces -/
theorem intsOf_ext (s : ByteArray) (a b : Nat) : intsOf (s.extract a b) = ((intsOf s).drop a).take (b - a) := by
  unfold intsOf
  rw [← List.map_drop, ← List.map_take]
  congr 1
  rw [ByteArray.data_extract, Array.toList_extract]
theorem intsOf_split (s : ByteArray) (n : Nat) : intsOf (s.extract 0 n) ++ intsOf (s.extract n s.size) = intsOf s := by
  rw [intsOf_ext, intsOf_ext, List.drop_zero, Nat.sub_zero]
  have : ((intsOf s).drop n).take (s.size - n) = (intsOf s).drop n := by
    apply List.take_of_length_le
    rw [List.length_drop, intsOf_len]
    omega
  rw [this, List.take_append_drop]
theorem IAt.ext {h h' : Heap} {a : Option Addr} {n : Nat} {l : List Int} (hi : IAt h a n l) (he : Ext h h') : IAt h' a n l := ⟨hi.1, fun i hl => (hi.2 i hl).imp fun p hp => ⟨hp.1, he.cell hp.2⟩⟩
theorem Feed_is {h0 : Base} {h : Heap} {s : Nat} {S : Scr} {L X : Blks} {t : ByteArray} {K : Heap → Prop} (ht : Tabs h0.h) (hi : Is s S L) (ho : Own h0 h (L ++ X)) (o : Ok S) (u : U8 S) (hz : t.size < 9223372036854775807) (hk : ∀ h1 L', Is s (strV S t) L' → Own h0 h1 (L' ++ X) → K h1) : vt_Screen_Feed (some ⟨s, 0, none⟩) t K h := by
  refine Feed_sp (h0 := ⟨h0.h, X ++ h0.X⟩) ht (hi.on ho) o u hz fun h1 hs1 => ?_
  obtain ⟨L1, ho1, i1⟩ := Is.off (h0 := h0) (X := X) hs1.toX
  exact hk h1 L1 i1 ho1
theorem Answer_is {h0 : Base} {h : Heap} {s : Nat} {S : Scr} {L X : Blks} {K : ByteArray → Heap → Prop} (hi : Is s S L) (ho : Own h0 h (L ++ X)) (hk : ∀ h1 L', Is s (setAns S ⟨#[]⟩) L' → Own h0 h1 (L' ++ X) → K S.answer h1) : vt_Screen_Answer (some ⟨s, 0, none⟩) K h := by
  refine Answer_sp (h0 := ⟨h0.h, X ++ h0.X⟩) (hi.on ho) fun h1 hs1 => ?_
  obtain ⟨L1, ho1, i1⟩ := Is.off (h0 := h0) (X := X) hs1.toX
  exact hk h1 L1 i1 ho1
theorem chunk_l1 {h0 : Base} {X : Blks} {v : Nat} {S1 : Scr} {d : ByteArray} {p1 p2 : Option Addr} {K2 : Option Addr → Option Addr → Option Addr → Heap → Prop} (ht : Tabs h0.h) (hz : d.size ≤ 1000000000) :
    ∀ (q i : Nat) (V : Scr) (L : Blks) (h : Heap), Is v V L → Own h0 h (L ++ X) → Ok V → U8 V → bytesL ((intsOf d).drop i) V = S1 → d.size - i = q → i ≤ d.size →
      (∀ h1 L', Is v S1 L' → Own h0 h1 (L' ++ X) → K2 p1 p2 (some ⟨v, 0, none⟩) h1) → law19_VtChunks_l1 K2 (q + 1) d p1 p2 (some ⟨v, 0, none⟩) i h := by
  intro q
  induction q with
  | zero =>
    intro i V L h hi ho o u hb hq hle hk
    unfold law19_VtChunks_l1
    rw [if_neg (by omega)]
    rw [List.drop_of_length_le (by rw [intsOf_len]; omega)] at hb
    obtain rfl : V = S1 := hb
    exact hk h L hi ho
  | succ q ih =>
    intro i V L h hi ho o u hb hq hle hk
    unfold law19_VtChunks_l1
    rw [if_pos (by omega), wrap64 (x := (i : Int) + 1) (by omega) (by omega)]
    refine ⟨by omega, by omega, by omega, by omega, ?_⟩
    have hlt : i < (intsOf d).length := by rw [intsOf_len]; omega
    have e1 : intsOf (d.extract (i : Int).toNat ((i : Int) + 1).toNat) = [(intsOf d)[i]] := by
      rw [intsOf_ext, show (i : Int).toNat = i by omega, show ((i : Int) + 1).toNat - i = 1 by omega, List.drop_eq_getElem_cons hlt]
      rfl
    have e2 : strV V (d.extract (i : Int).toNat ((i : Int) + 1).toNat) = byteV V ((intsOf d)[i]) := by
      unfold strV
      rw [e1]
      rfl
    refine Feed_is ht hi ho o u (by rw [ByteArray.size_extract]; omega) fun h1 L1 i1 ho1 => ?_
    rw [e2] at i1
    rw [show (i : Int) + 1 = ((i + 1 : Nat) : Int) by omega]
    refine ih (i + 1) _ L1 h1 i1 ho1 (o.byte _) (u.byte _) ?_ (by omega) (by omega) hk
    rw [List.drop_eq_getElem_cons hlt] at hb
    exact hb
theorem chunk_l0 {h0 : Base} {X : Blks} {t : Nat} {S1 : Scr} {d : ByteArray} {p1 p3 : Option Addr} {ca : Option Addr} {cn cc : Nat} {cl : List Int} {K0 : ByteArray → Option Addr → Option Addr → Option Addr → ByteArray → Heap → Prop} (ht : Tabs h0.h) (hI : IAt h0.h ca cn cl) (hc : cn ≤ 1000000000) :
    ∀ (q i : Nat) (T : Scr) (r : ByteArray) (L : Blks) (h : Heap), Is t T L → Own h0 h (L ++ X) → Ok T → U8 T → strV T r = S1 → r.size ≤ 1000000000 → cn - i = q → i ≤ cn →
      (∀ h1 T' r' L', Is t T' L' → Own h0 h1 (L' ++ X) → Ok T' → U8 T' → strV T' r' = S1 → r'.size ≤ 1000000000 → K0 d p1 (some ⟨t, 0, none⟩) p3 r' h1) → law19_VtChunks_l0 K0 (q + 1) d ca cn cc p1 (some ⟨t, 0, none⟩) p3 r i h := by
  intro q
  induction q with
  | zero =>
    intro i T r L h hi ho o u hb hr hq hle hk
    unfold law19_VtChunks_l0
    rw [if_neg (by omega)]
    exact hk h T r L hi ho o u hb hr
  | succ q ih =>
    intro i T r L h hi ho o u hb hr hq hle hk
    unfold law19_VtChunks_l0
    rw [if_pos (by omega)]
    obtain ⟨p, rfl, hd⟩ := (hI.ext ho.ext).2 i (by omega)
    have hte : ((i : Int)).toNat = i := by omega
    refine nz_i ⟨by omega, by omega, ⟨_, by rw [hte]; exact hd, ?_⟩⟩
    rw [wrap64 (x := (r.size : Int) + 1) (by omega) (by omega)]
    have hp := posV_rng (cl.getD i 0) ((r.size : Int) + 1) (by omega)
    refine ⟨by omega, by omega, ?_⟩
    generalize posV (cl.getD i 0) ((r.size : Int) + 1) = n at *
    refine ⟨by omega, by omega, ?_⟩
    refine Feed_is ht hi ho o u (by rw [ByteArray.size_extract]; omega) fun h1 L1 i1 ho1 => ⟨by omega, by omega, ?_⟩
    rw [wrap64 (by omega) (by omega), show (i : Int) + 1 = ((i + 1 : Nat) : Int) by omega]
    refine ih (i + 1) _ _ L1 h1 i1 ho1 (o.str _) (u.str _) ?_ ?_ (by omega) (by omega) hk
    · rw [← hb]
      unfold strV
      rw [← bytesL_app, intsOf_split]
    · rw [ByteArray.size_extract]; omega
theorem gs_zero {w hh m : Int} (w1 : w ≤ 1000) : Gs Short (zeroS w hh m) := by
  refine ⟨short_good, w1, ?_, ?_, ?_⟩
  · intro r hr
    exact absurd (show r ∈ ([] : List (List Gl)) from hr) List.not_mem_nil
  · intro r hr
    exact absurd (show r ∈ ([] : List (List Gl)) from hr) List.not_mem_nil
  · intro r hr
    exact absurd (show r ∈ ([] : List (List Gl)) from hr) List.not_mem_nil
theorem gs_new {w hh m : Int} (w1 : w ≤ 1000) : Gs Short (newV w hh m) := by
  unfold newV
  exact (gs_zero w1).reset
/-! ### The law -/
set_option maxHeartbeats 2000000 in
theorem chunks_sp {w hh m : Int} {data : ByteArray} {ca : Option Addr} {cn cc : Nat} {cl : List Int} {h : Heap} {K : Bool → Heap → Prop} (ht : Tabs h) (hz : data.size ≤ 1000000000) (hI : IAt h ca cn cl) (hc : cn ≤ 1000000000) (hk : ∀ h1, Ext h h1 → K true h1) : law19_VtChunks w hh m data ca cn cc K h := by
  unfold law19_VtChunks
  refine newB_o (Own.init h) fun b6 h1 ho1 => ?_
  refine ldI0 ho1 rfl (ldI0 ho1 rfl (ldI0 ho1 rfl ?_))
  refine made_sp ht ho1 (fun e h2 he ho2 => ?_) fun w0 w1 hh0 hh1 m0 m1 s b2 h2 hs2 => ?_
  · -- there is none
    refine ldI0 ho2 rfl (ldI0 ho2 rfl (ldI0 ho2 rfl ?_))
    have bad : ∀ {P : Prop}, 1 ≤ w → w ≤ 1000 → 1 ≤ hh → hh ≤ 1000 → 0 ≤ m → m ≤ 2000 → P := by
      intro P w0 w1 hh0 hh1 m0 m1
      unfold badV at he
      rw [if_pos ⟨w0, w1, hh0, hh1⟩, if_pos ⟨m0, m1⟩] at he
      exact nomatch he
    refine made_sp ht ho2 (fun e3 h3 he3 ho3 => ?_) fun w0 w1 hh0 hh1 m0 m1 s b2 h2 hs2 => bad w0 w1 hh0 hh1 m0 m1
    refine ldI0 ho3 rfl (ldI0 ho3 rfl (ldI0 ho3 rfl ?_))
    refine made_sp ht ho3 (fun e4 h4 he4 ho4 => ?_) fun w0 w1 hh0 hh1 m0 m1 s b2 h2 hs2 => bad w0 w1 hh0 hh1 m0 m1
    rw [if_pos (by simp)]
    exact hk h4 ho4.ext
  obtain ⟨Ls, ho2, is⟩ := hs2.is
  have ho2 : Own (⟨h, []⟩ : Base) h2 ((b6, #[.int .i64 w, .int .i64 hh, .int .i64 m], 23) :: Ls) := ho2.perm (by exact pc)
  have good : badV w hh m = none := by
    unfold badV
    rw [if_pos ⟨w0, w1, hh0, hh1⟩, if_pos ⟨m0, m1⟩]
  refine ldI0 ho2 rfl (ldI0 ho2 rfl (ldI0 ho2 rfl ?_))
  refine made_sp ht ho2 (fun e h3 he ho3 => absurd he (by rw [good]; simp)) fun _ _ _ _ _ _ t b3 h3 hs3 => ?_
  obtain ⟨Lt, ho3, it⟩ := hs3.is
  have ho3 : Own (⟨h, []⟩ : Base) h3 ((b6, #[.int .i64 w, .int .i64 hh, .int .i64 m], 23) :: (Ls ++ Lt)) := ho3.perm (by exact pc)
  refine ldI0 ho3 rfl (ldI0 ho3 rfl (ldI0 ho3 rfl ?_))
  refine made_sp ht ho3 (fun e h4 he ho4 => absurd he (by rw [good]; simp)) fun _ _ _ _ _ _ v b4 h4 hs4 => ?_
  obtain ⟨Lv, ho4, iv⟩ := hs4.is
  have ho4 : Own (⟨h, []⟩ : Base) h4 (Ls ++ (Lt ++ Lv)) := (Own.perm (l' := (b6, #[.int .i64 w, .int .i64 hh, .int .i64 m], 23) :: (Ls ++ (Lt ++ Lv))) ho4 (by exact pc)).tail
  rw [if_neg (by simp)]
  have o := ok_new w0 w1 hh0 hh1 m0 m1
  have u := u8_new w hh m
  have f : Gs Short (newV w hh m) := gs_new w1
  refine Feed_is ht is ho4 o u (by omega) fun h5 Ls5 is5 ho5 => ?_
  have ho5 : Own (⟨h, []⟩ : Base) h5 (Lt ++ (Ls5 ++ Lv)) := ho5.perm (by exact pc)
  have o1 := o.str data
  have f1 := f.str o data
  refine ⟨cn - 0 + 1, chunk_l0 (S1 := strV (newV w hh m) data) ht hI hc (cn - 0) 0 _ data Lt h5 it ho5 o u rfl hz rfl (by omega) fun h6 T r Lt6 it6 ho6 oT uT hT hr => ?_⟩
  refine Feed_is ht it6 ho6 oT uT (by omega) fun h7 Lt7 it7 ho7 => ?_
  rw [hT] at it7
  have ho7 : Own (⟨h, []⟩ : Base) h7 (Lv ++ (Ls5 ++ Lt7)) := ho7.perm (by exact pc)
  refine ⟨data.size - 0 + 1, chunk_l1 (S1 := strV (newV w hh m) data) ht hz (data.size - 0) 0 _ Lv h7 iv ho7 o u (by rw [List.drop_zero]; rfl) rfl (by omega) fun h8 Lv8 iv8 ho8 => ?_⟩
  have ho8 : Own (⟨h, []⟩ : Base) h8 (Ls5 ++ (Lt7 ++ Lv8)) := ho8.perm (by exact pc)
  have hu1 := u.str data
  generalize strV (newV w hh m) data = S1 at *
  -- the answers
  refine Answer_is is5 ho8 fun h9 Ls9 is9 ho9 => ?_
  have oE : Ok (setAns S1 ⟨#[]⟩) := ⟨⟨o1.d.w0, o1.d.w1, o1.d.h0, o1.d.h1, o1.d.m0, o1.d.m1, o1.d.past, o1.d.main, o1.d.other⟩, ⟨o1.c.p, o1.c.t0, o1.c.tb, o1.c.bh, o1.c.tabs, o1.c.gath, show (⟨#[]⟩ : ByteArray).size ≤ 4096 by decide, o1.c.hv0, o1.c.hv1, o1.c.km, o1.c.ko⟩⟩
  refine Feed_is ht is9 ho9 oE hu1 (by decide) fun h10 Ls10 is10 ho10 => ?_
  rw [ask_ans] at is10
  have ho10 : Own (⟨h, []⟩ : Base) h10 (Lt7 ++ (Ls10 ++ Lv8)) := ho10.perm (by exact pc)
  have eS : strV S1 ⟨#[27, 91, 54, 110]⟩ = setAns (asked S1) (laidOn S1.answer (reply S1)) := ask_ans S1 S1.answer
  have oA := o1.str ⟨#[27, 91, 54, 110]⟩
  have fA := f1.str o1 ⟨#[27, 91, 54, 110]⟩
  refine Feed_is ht it7 ho10 o1 hu1 (by decide) fun h11 Lt11 it11 ho11 => ?_
  rw [eS] at it11 oA fA
  have ho11 : Own (⟨h, []⟩ : Base) h11 (Lv8 ++ (Lt11 ++ Ls10)) := ho11.perm (by exact pc)
  refine Feed_is ht iv8 ho11 o1 hu1 (by decide) fun h12 Lv12 iv12 ho12 => ?_
  rw [eS] at iv12
  have ho12 : Own (⟨h, []⟩ : Base) h12 (Ls10 ++ (Lt11 ++ Lv12)) := ho12.perm (by exact pc)
  refine Answer_is is10 ho12 fun h13 Ls13 is13 ho13 => ?_
  have ho13 : Own (⟨h, []⟩ : Base) h13 (Lt11 ++ (Ls13 ++ Lv12)) := ho13.perm (by exact pc)
  refine Answer_is it11 ho13 fun h14 Lt14 it14 ho14 => ?_
  have ho14 : Own (⟨h, []⟩ : Base) h14 (Lv12 ++ (Lt14 ++ Ls13)) := ho14.perm (by exact pc)
  refine Answer_is iv12 ho14 fun h15 Lv15 iv15 ho15 => ?_
  have ho15 : Own (⟨h, []⟩ : Base) h15 (Ls13 ++ (Lt14 ++ Lv15)) := ho15.perm (by exact pc)
  have oF : Ok (setAns (asked S1) ⟨#[]⟩) := ⟨⟨oA.d.w0, oA.d.w1, oA.d.h0, oA.d.h1, oA.d.m0, oA.d.m1, oA.d.past, oA.d.main, oA.d.other⟩, ⟨oA.c.p, oA.c.t0, oA.c.tb, oA.c.bh, oA.c.tabs, oA.c.gath, show (⟨#[]⟩ : ByteArray).size ≤ 4096 by decide, oA.c.hv0, oA.c.hv1, oA.c.km, oA.c.ko⟩⟩
  have fF : Gs Short (setAns (asked S1) ⟨#[]⟩) := ⟨fA.G, fA.w1, fA.m, fA.o, fA.p⟩
  have ha : (laidOn S1.answer (reply S1)).size ≤ 4096 := oA.c.ans
  have hr := reply_size o1
  have hp := o1.c.ans
  have hq : laidOn ⟨#[]⟩ (reply S1) = reply S1 := by
    unfold laidOn
    rw [if_pos (by show 0 + (reply S1).size ≤ 4096; omega)]
    exact ByteArray.empty_append
  show (_ → _ → _) ∧ _
  have e1 : (setAns (asked S1) (laidOn ⟨#[]⟩ (reply S1))).answer = reply S1 := hq
  have e2 : (setAns (asked S1) (laidOn S1.answer (reply S1))).answer = laidOn S1.answer (reply S1) := rfl
  rw [e1, e2]
  refine ⟨fun _ _ => by omega, ?_⟩
  rw [wrap64 (x := (S1.answer.size : Int) + ((reply S1).size : Int)) (by omega) (by omega)]
  have hcond : ((((laidOn S1.answer (reply S1)).toList == (laidOn S1.answer (reply S1)).toList) && (decide (((laidOn S1.answer (reply S1)).size : Int) ≤ 4096))) && ((decide (4096 < ((S1.answer.size : Int) + ((reply S1).size : Int)))) || ((laidOn S1.answer (reply S1)).toList == (S1.answer ++ reply S1).toList))) = true := by
    rw [lst_eq, lst_eq, decide_eq_true rfl, decide_eq_true (by omega)]
    by_cases hh : S1.answer.size + (reply S1).size ≤ 4096
    · have : laidOn S1.answer (reply S1) = S1.answer ++ reply S1 := by
        unfold laidOn
        rw [if_pos hh]
      rw [this, decide_eq_true rfl]
      simp
    · rw [decide_eq_true (show 4096 < ((S1.answer.size : Int) + ((reply S1).size : Int)) by omega)]
      rfl
  rw [if_pos hcond]
  refine alike_sp is13 it14 oF fF ho15 fun h16 La Lb i16 j16 ho16 => ?_
  rw [if_pos rfl]
  have ho16 : Own (⟨h, []⟩ : Base) h16 (La ++ (Lv15 ++ Lb)) := ho16.perm (by exact pc)
  refine alike_sp i16 iv15 oF fF ho16 fun h17 Lc Ld i17 j17 ho17 => ?_
  exact hk h17 ho17.ext
end Go.Proofs.YthjdnhhifjpidaaGreatDoor.M
