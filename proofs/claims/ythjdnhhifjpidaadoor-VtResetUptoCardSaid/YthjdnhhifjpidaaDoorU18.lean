import Derived.Test.YthjdnhhifjpidaaDoorU17
set_option linter.unusedVariables false
set_option linter.unusedSimpArgs false
set_option maxRecDepth 100000
namespace Go.Proofs.YthjdnhhifjpidaaDoor.M
open Go Go.Hp

/-! ### Modes of the mark ? -/
def privateV (S : Scr) (n : Int) (on : Bool) : Scr :=
  if n = 1 then { S with app := on } else if n = 2004 then { S with bracket := on } else
  if n = 6 then homeV (S.setPl { S.pl with origin := on }) 1 1 else
  if n = 7 then (Scr.setPl { S with wrap := on } { S.pl with waiting := S.pl.waiting && on }) else
  if n = 25 then { S with hidden := !on } else
  if n = 47 ∨ n = 1047 then swapV S on else
  if n = 1048 then (if on = true then keepCursorV S else backCursorV S) else
  if n = 1049 then (if on = true then (if S.alt = false then swapV (keepCursorV S) true else S) else if S.alt = true then backCursorV (swapV S false) else S) else S
theorem Ok.setOrigin {S : Scr} (o : Ok S) (b : Bool) : Ok (S.setPl { S.pl with origin := b }) := Ok.setPl (p := { S.pl with origin := b }) o ⟨o.c.p.x0, o.c.p.x1, o.c.p.y0, o.c.p.y1⟩
theorem Ok.private {S : Scr} (o : Ok S) (n : Int) (on : Bool) : Ok (privateV S n on) := by
  unfold privateV
  split
  · exact ⟨⟨o.d.w0, o.d.w1, o.d.h0, o.d.h1, o.d.m0, o.d.m1, o.d.past, o.d.main, o.d.other⟩, ⟨o.c.p, o.c.t0, o.c.tb, o.c.bh, o.c.tabs, o.c.gath, o.c.ans, o.c.hv0, o.c.hv1, o.c.km, o.c.ko⟩⟩
  split
  · exact ⟨⟨o.d.w0, o.d.w1, o.d.h0, o.d.h1, o.d.m0, o.d.m1, o.d.past, o.d.main, o.d.other⟩, ⟨o.c.p, o.c.t0, o.c.tb, o.c.bh, o.c.tabs, o.c.gath, o.c.ans, o.c.hv0, o.c.hv1, o.c.km, o.c.ko⟩⟩
  split
  · exact (o.setOrigin on).home 1 1
  split
  · have o1 : Ok { S with wrap := on } := ⟨⟨o.d.w0, o.d.w1, o.d.h0, o.d.h1, o.d.m0, o.d.m1, o.d.past, o.d.main, o.d.other⟩, ⟨o.c.p, o.c.t0, o.c.tb, o.c.bh, o.c.tabs, o.c.gath, o.c.ans, o.c.hv0, o.c.hv1, o.c.km, o.c.ko⟩⟩
    exact Ok.setPl (p := { S.pl with waiting := S.pl.waiting && on }) o1 ⟨o.c.p.x0, o.c.p.x1, o.c.p.y0, o.c.p.y1⟩
  split
  · exact ⟨⟨o.d.w0, o.d.w1, o.d.h0, o.d.h1, o.d.m0, o.d.m1, o.d.past, o.d.main, o.d.other⟩, ⟨o.c.p, o.c.t0, o.c.tb, o.c.bh, o.c.tabs, o.c.gath, o.c.ans, o.c.hv0, o.c.hv1, o.c.km, o.c.ko⟩⟩
  split
  · exact o.swap on
  split
  · split
    · exact o.keepCursor
    · exact o.backCursor
  split
  · split
    · split
      · exact o.keepCursor.swap true
      · exact o
    · split
      · exact (o.swap false).backCursor
      · exact o
  · exact o
theorem private_j0 {h0 : Base} {h : Heap} {s : Nat} {S : Scr} {X : Blks} {n : Int} {on q : Bool} {K : Heap → Prop} (hs : RepX h0 h s S X) (o : Ok S) (h1 : n ≠ 1) (h2 : n ≠ 2004) (h3 : n ≠ 6) (h4 : n ≠ 7) (h5 : n ≠ 25) (hq : q = decide (n = 47 ∨ n = 1047)) (hk : ∀ h1, RepX h0 h1 s (privateV S n on) X → K h1) :
    vt_Screen_private_j0 K (some ⟨s, 0, none⟩) on n q h := by
  have hs0 := hs
  unfold vt_Screen_private_j0
  unfold privateV at hk
  rw [if_neg h1, if_neg h2, if_neg h3, if_neg h4, if_neg h5] at hk
  subst hq
  by_cases h6 : n = 47 ∨ n = 1047
  · rw [if_pos h6] at hk
    rw [if_pos (by simpa using h6)]
    exact swap_spX hs o hk
  rw [if_neg h6] at hk
  rw [if_neg (by simpa using h6)]
  by_cases h7 : n = 1048
  · rw [if_pos h7] at hk ⊢
    by_cases h8 : on = true
    · rw [if_pos h8] at hk ⊢
      exact keepCursor_spX hs hk
    · rw [if_neg h8] at hk ⊢
      exact backCursor_spX hs hk
  rw [if_neg h7] at hk ⊢
  by_cases h8 : n = 1049
  · rw [if_pos h8] at hk ⊢
    obtain ⟨A, oM, oO, oP, oT, oG, oK, oL, ho, hp⟩ := hs
    by_cases h9 : on = true
    · rw [if_pos h9] at hk ⊢
      refine nz_i ?_
      simp only [add0, Nat.zero_add]
      refine ldB0 ho rfl ?_
      show if (!S.alt) = true then _ else _
      by_cases ha : S.alt = false
      · rw [if_pos ha] at hk
        rw [if_pos (by rw [ha]; rfl)]
        exact keepCursor_spX hs0 fun h10 hs10 => swap_spX hs10 o.keepCursor hk
      · rw [if_neg ha] at hk
        rw [if_neg (by simpa using ha)]
        exact hk h hs0
    · rw [if_neg h9] at hk ⊢
      refine nz_i ?_
      simp only [add0, Nat.zero_add]
      refine ldB0 ho rfl ?_
      show if S.alt = true then _ else _
      by_cases ha : S.alt = true
      · rw [if_pos ha] at hk ⊢
        exact swap_spX hs0 o fun h10 hs10 => backCursor_spX hs10 hk
      · rw [if_neg ha] at hk ⊢
        exact hk h hs0
  · rw [if_neg h8] at hk ⊢
    exact hk h hs0
theorem private_spX {h0 : Base} {h : Heap} {s : Nat} {S : Scr} {X : Blks} {n : Int} {on : Bool} {K : Heap → Prop} (hs : RepX h0 h s S X) (o : Ok S) (hk : ∀ h1, RepX h0 h1 s (privateV S n on) X → K h1) : vt_Screen_private (some ⟨s, 0, none⟩) n on K h := by
  have hs0 := hs
  obtain ⟨A, oM, oO, oP, oT, oG, oK, oL, ho, hp⟩ := hs
  unfold vt_Screen_private
  have hk0 := hk
  unfold privateV at hk
  by_cases h1 : n = 1
  · rw [if_pos h1] at hk ⊢
    refine nz_i ?_
    simp only [add0, Nat.zero_add]
    refine st0 ho rfl fun h1 ho1 => hk h1 ⟨A, oM, oO, oP, oT, oG, oK, oL, by assumption, hp.1, hp.2, hp.3, hp.4, hp.5, hp.6, hp.7⟩
  rw [if_neg h1] at hk ⊢
  by_cases h2 : n = 2004
  · rw [if_pos h2] at hk ⊢
    refine nz_i ?_
    simp only [add0, Nat.zero_add]
    refine st0 ho rfl fun h1 ho1 => hk h1 ⟨A, oM, oO, oP, oT, oG, oK, oL, by assumption, hp.1, hp.2, hp.3, hp.4, hp.5, hp.6, hp.7⟩
  rw [if_neg h2] at hk ⊢
  by_cases h3 : n = 6
  · rw [if_pos h3] at hk ⊢
    refine nz_i ?_
    simp only [add0, Nat.zero_add]
    refine st0 ho rfl fun h1 ho1 => ?_
    have hs1 : RepX h0 h1 s (S.setPl { S.pl with origin := on }) X := ⟨A, oM, oO, oP, oT, oG, oK, oL, by assumption, hp.1, hp.2, hp.3, hp.4, hp.5, hp.6, hp.7⟩
    exact home_spX hs1 hk
  rw [if_neg h3] at hk ⊢
  by_cases h4 : n = 7
  · rw [if_pos h4] at hk ⊢
    refine nz_i ?_
    simp only [add0, Nat.zero_add]
    refine st0 ho rfl fun h1 ho1 => ?_
    refine ldB0 ho1 rfl ?_
    refine st0 ho1 rfl fun h2 ho2 => hk h2 ⟨A, oM, oO, oP, oT, oG, oK, oL, by assumption, hp.1, hp.2, hp.3, hp.4, hp.5, hp.6, hp.7⟩
  rw [if_neg h4] at hk ⊢
  by_cases h5 : n = 25
  · rw [if_pos h5] at hk ⊢
    refine nz_i ?_
    simp only [add0, Nat.zero_add]
    refine st0 ho rfl fun h1 ho1 => hk h1 ⟨A, oM, oO, oP, oT, oG, oK, oL, by assumption, hp.1, hp.2, hp.3, hp.4, hp.5, hp.6, hp.7⟩
  rw [if_neg h5] at hk ⊢
  by_cases h6 : n = 47
  · rw [if_pos h6]
    exact private_j0 hs0 o h1 h2 h3 h4 h5 (by simp [h6]) hk0
  · rw [if_neg h6]
    exact private_j0 hs0 o h1 h2 h3 h4 h5 (by simp [h6]) hk0

/-! ### The numbers of a sequence -/
def BAt (h : Heap) (a : Option Addr) (n : Nat) (g : List Int) : Prop := n = g.length ∧ ∀ i, i < n → ∃ p, a = some p ∧ cellH h (p.add (i * 1)) = some (.int .u8 (g.getD i 0))
theorem cellsAt_of {h : Heap} {a : Addr} : ∀ (vs : List Value) (k : Nat), (∀ j v, vs[j]? = some v → cellH h (a.add (k + j)) = some v) → cellsAt h a k vs
  | [], _, _ => trivial
  | v :: vs, k, hv => ⟨hv 0 v rfl, cellsAt_of vs (k + 1) fun j w hw => by
      have := hv (j + 1) w (by simpa using hw)
      rw [show k + 1 + j = k + (j + 1) by omega]
      exact this⟩
theorem BAt.cut {h : Heap} {a : Option Addr} {n c : Nat} {g : List Int} (hb : BAt h a n g) (hc : n ≤ c) (e : Nat) (he : e ≤ n) : BAt h (cutA a c e 1) (n - e) (g.drop e) := by
  obtain ⟨hn, hd⟩ := hb
  refine ⟨by rw [List.length_drop, hn], fun i hi => ?_⟩
  obtain ⟨p, rfl, hp⟩ := hd (e + i) (by omega)
  unfold cutA
  rw [if_neg (by omega)]
  refine ⟨p.add (e * 1), rfl, ?_⟩
  rw [addadd, List.getD_eq_getElem?_getD, List.getElem?_drop, ← List.getD_eq_getElem?_getD, show e * 1 + i * 1 = (e + i) * 1 by omega]
  exact hp
theorem BAt.byts {h : Heap} {a : Option Addr} {n : Nat} {g : List Int} (hb : BAt h a n g) {K : ByteArray → Prop} (hk : K (bytesOf g)) : bytM h a n K := by
  obtain ⟨hn, hd⟩ := hb
  refine ⟨_, ⟨g, hn.symm, ?_, rfl⟩, hk⟩
  unfold srcAt
  cases a with
  | none =>
    cases g with
    | nil => rfl
    | cons x g =>
      obtain ⟨p, hp, _⟩ := hd 0 (by simp at hn; omega)
      cases hp
  | some a =>
    refine cellsAt_of _ 0 fun j v hv => ?_
    rw [List.getElem?_map] at hv
    cases hg : g[j]? with
    | none => rw [hg] at hv; cases hv
    | some x =>
      rw [hg] at hv
      obtain rfl : Value.int .u8 x = v := Option.some.inj hv
      have hj := (List.getElem?_eq_some_iff.1 hg).1
      obtain ⟨p, hp, hc⟩ := hd j (by omega)
      obtain rfl : a = p := Option.some.inj hp
      rw [Nat.zero_add]
      rw [Nat.mul_one, List.getD_eq_getElem?_getD, hg] at hc
      exact hc
def endV (g : List Int) : Nat → Nat → Nat
  | 0, e => e
  | f + 1, e => if 48 ≤ g.getD e 0 ∧ g.getD e 0 ≤ 59 then endV g f (e + 1) else e
theorem endV_le (g : List Int) : ∀ (f e : Nat), endV g f e ≤ e + f
  | 0, e => Nat.le_refl _
  | f + 1, e => by
    unfold endV
    split
    · have := endV_le g f (e + 1)
      omega
    · omega
theorem numbers_l1 {K0 : Option Addr → Nat → Nat → Int → Int → Heap → Prop} {h : Heap} {a : Option Addr} {n c : Nat} {g : List Int} {mk : Int} (hb : BAt h a n g) (hn : n ≤ 1000) :
    ∀ (q e : Nat), n - e = q → e ≤ n → K0 a n c mk (endV g q e) h → vt_Screen_numbers_l1 K0 (q + 1) a n c mk e h := by
  intro q
  induction q with
  | zero =>
    intro e hq he hk
    unfold vt_Screen_numbers_l1
    rw [if_neg (by omega)]
    exact hk
  | succ q ih =>
    intro e hq he hk
    unfold vt_Screen_numbers_l1
    rw [if_pos (by omega)]
    unfold endV at hk
    obtain ⟨p, rfl, hp⟩ := hb.2 e (by omega)
    have hte : ((e : Int)).toNat = e := by omega
    refine nz_i ⟨by omega, by omega, ⟨_, by rw [hte]; exact hp, ?_⟩⟩
    show if 48 ≤ g.getD e 0 then _ else _
    by_cases h1 : 48 ≤ g.getD e 0
    · rw [if_pos h1]
      refine ⟨by omega, by omega, ⟨_, by rw [hte]; exact hp, ?_⟩⟩
      show if g.getD e 0 ≤ 59 then _ else _
      by_cases h2 : g.getD e 0 ≤ 59
      · rw [if_pos h2]
        rw [if_pos ⟨h1, h2⟩] at hk
        rw [wrap64 (by omega) (by omega), show (e : Int) + 1 = ((e + 1 : Nat) : Int) by omega]
        exact ih (e + 1) (by omega) (by omega) hk
      · rw [if_neg h2]
        rw [if_neg (fun hh => h2 hh.2)] at hk
        exact hk
    · rw [if_neg h1]
      rw [if_neg (fun hh => h1 hh.1)] at hk
      exact hk
def badL (s : ByteArray) : Nat → Int → Bool
  | 0, _ => false
  | q + 1, i => if 48 ≤ byteAt s i then true else badL s q (i + 1)
theorem numbers_l2 {K2 : Option Addr → Nat → Nat → Int → Int → ByteArray → Heap → Prop} {Kr : Int → Option Addr → Nat → Nat → ByteArray → Bool → Heap → Prop} {h : Heap} {a : Option Addr} {n c : Nat} {mk e : Int} {s : ByteArray} (hz : s.size ≤ 1000000) :
    ∀ (q : Nat) (i : Int), ((s.size : Int) - i).toNat = q → 0 ≤ i → (badL s q i = true → Kr 0 none 0 0 ⟨#[]⟩ false h) → (badL s q i = false → K2 a n c mk e s h) → vt_Screen_numbers_l2 K2 Kr (q + 1) a n c mk e s (s.size : Int) i h := by
  intro q
  induction q with
  | zero =>
    intro i hq hi hr hk
    unfold vt_Screen_numbers_l2
    rw [if_neg (by omega)]
    exact hk rfl
  | succ q ih =>
    intro i hq hi hr hk
    unfold vt_Screen_numbers_l2
    rw [if_pos (by omega)]
    refine ⟨hi, by omega, ?_⟩
    unfold badL at hr hk
    by_cases h1 : 48 ≤ byteAt s i
    · rw [if_pos h1]
      exact hr (if_pos h1)
    · rw [if_neg h1] at hr hk ⊢
      rw [wrap64 (by omega) (by omega)]
      exact ih (i + 1) (by omega) (by omega) hr hk
abbrev nf (b : Int) : List Value := [.int .i64 b]
theorem nf_len (b : Int) : (nf b).length = 1 := rfl
def numsL (g : List Int) : Nat → Nat → List Int → Int → List Int × Int
  | 0, _, out, n => (out, n)
  | q + 1, i, out, n => if g.getD i 0 = 59 then numsL g q (i + 1) (out ++ [n]) (-1) else if g.getD i 0 = 58 then numsL g q (i + 1) (out ++ [n]) (-1) else
    numsL g q (i + 1) out (imin 9999 (IntKind.wrap .i64 ((IntKind.wrap .i64 ((imax n 0) * 10)) + (IntKind.wrap .i64 (IntKind.wrap .u8 (g.getD i 0 - 48))))))
theorem numsL_len (g : List Int) : ∀ (q i : Nat) (out : List Int) (n : Int), (numsL g q i out n).1.length ≤ out.length + q
  | 0, _, out, n => Nat.le_refl _
  | q + 1, i, out, n => by
    unfold numsL
    split
    · have := numsL_len g q (i + 1) (out ++ [n]) (-1)
      simp only [List.length_append, List.length_singleton] at this
      omega
    · split
      · have := numsL_len g q (i + 1) (out ++ [n]) (-1)
        simp only [List.length_append, List.length_singleton] at this
        omega
      · have := numsL_len g q (i + 1) out (imin 9999 (IntKind.wrap .i64 ((IntKind.wrap .i64 ((imax n 0) * 10)) + (IntKind.wrap .i64 (IntKind.wrap .u8 (g.getD i 0 - 48))))))
        omega
theorem numbers_l3 {K4 : Int → Int → ByteArray → Option Addr → Nat → Nat → Int → Heap → Prop} {h0 : Base} {L : Blks} {a : Option Addr} {n c : Nat} {g : List Int} {mk : Int} {e : Nat} {bs : ByteArray} (hB : ∀ h o, Own h0 h (L ++ (o ++ [])) → BAt h a n g) (hn : n ≤ 1000) (he : e ≤ n) :
    ∀ (q i : Nat) (h : Heap) (oa : Option Addr) (on oc : Nat) (out : List Int) (o : Blks) (m : Int), e - i = q → i ≤ e → on ≤ i → Own h0 h (L ++ (o ++ [])) → SlO nf 1 3 oa on oc out o →
      (∀ h' oa' on' oc' o', Own h0 h' (L ++ (o' ++ [])) → SlO nf 1 3 oa' on' oc' (numsL g q i out m).1 o' → K4 mk e bs oa' on' oc' (numsL g q i out m).2 h') →
      vt_Screen_numbers_l3 K4 (q + 1) a n c mk e bs oa on oc m i h := by
  intro q
  induction q with
  | zero =>
    intro i h oa on oc out o m hq hi ho' ho hs hk
    unfold vt_Screen_numbers_l3
    rw [if_neg (by omega)]
    exact hk h oa on oc o ho hs
  | succ q ih =>
    intro i h oa on oc out o m hq hi ho' ho hs hk
    unfold vt_Screen_numbers_l3
    rw [if_pos (by omega)]
    unfold numsL at hk
    obtain ⟨p, rfl, hp⟩ := (hB h o ho).2 i (by omega)
    have hte : ((i : Int)).toNat = i := by omega
    rw [wrap64 (x := (i : Int) + 1) (by omega) (by omega), show (i : Int) + 1 = ((i + 1 : Nat) : Int) by omega]
    refine nz_i ⟨by omega, by omega, ⟨_, by rw [hte]; exact hp, ?_⟩⟩
    show if g.getD i 0 = 59 then _ else _
    by_cases h1 : g.getD i 0 = 59
    · rw [if_pos h1] at hk ⊢
      refine gap_o ho fun h1 ho1 => ?_
      refine SlO.app (f := nf) (sz := 1) (js := [m]) nf_len rfl hs ho1 (by simp only [List.length_singleton]; omega) (by simp only [List.length_singleton]; omega) fun a' c' o' h' ho2 hs2 => ?_
      exact ih (i + 1) h' a' (on + 1) c' _ o' (-1) (by omega) (by omega) (by omega) ho2 hs2 hk
    rw [if_neg h1] at hk ⊢
    refine ⟨by omega, by omega, ⟨_, by rw [hte]; exact hp, ?_⟩⟩
    show if g.getD i 0 = 58 then _ else _
    by_cases h2 : g.getD i 0 = 58
    · rw [if_pos h2] at hk ⊢
      refine gap_o ho fun h1 ho1 => ?_
      refine SlO.app (f := nf) (sz := 1) (js := [m]) nf_len rfl hs ho1 (by simp only [List.length_singleton]; omega) (by simp only [List.length_singleton]; omega) fun a' c' o' h' ho2 hs2 => ?_
      exact ih (i + 1) h' a' (on + 1) c' _ o' (-1) (by omega) (by omega) (by omega) ho2 hs2 hk
    rw [if_neg h2] at hk ⊢
    refine ⟨by omega, by omega, ⟨_, by rw [hte]; exact hp, ?_⟩⟩
    exact ih (i + 1) h oa on oc out o _ (by omega) (by omega) (by omega) ho hs hk
def numbers0 (mk : Int) (g : List Int) : Int × List Int × ByteArray × Bool :=
  if badL (bytesOf (g.drop (endV g g.length 0))) (bytesOf (g.drop (endV g g.length 0))).size 0 = true then (0, [], ⟨#[]⟩, false) else
  if 0 < endV g g.length 0 then (mk, (numsL g (endV g g.length 0) 0 [] (-1)).1 ++ [(numsL g (endV g g.length 0) 0 [] (-1)).2], bytesOf (g.drop (endV g g.length 0)), decide (((((numsL g (endV g g.length 0) 0 [] (-1)).1 ++ [(numsL g (endV g g.length 0) 0 [] (-1)).2]).length : Nat) : Int) ≤ 16)) else
  (mk, (numsL g (endV g g.length 0) 0 [] (-1)).1, bytesOf (g.drop (endV g g.length 0)), decide (((((numsL g (endV g g.length 0) 0 [] (-1)).1).length : Nat) : Int) ≤ 16))
theorem bytesOf_size (l : List Int) : (bytesOf l).size = l.length := by
  unfold bytesOf
  have : ∀ (l : List Int) (s : ByteArray), (l.foldl (fun s n => s.push (UInt8.ofNat n.toNat)) s).size = s.size + l.length := by
    intro l
    induction l with
    | nil => intro s; rfl
    | cons x l ih => intro s; rw [List.foldl_cons, ih, ByteArray.size_push, List.length_cons]; omega
  rw [this]
  simp
theorem numbers_j0 {Kr : Int → Option Addr → Nat → Nat → ByteArray → Bool → Heap → Prop} {h0 : Base} {h : Heap} {L : Blks} {a : Option Addr} {n c : Nat} {g : List Int} {mk : Int} (hB : ∀ h o, Own h0 h (L ++ (o ++ [])) → BAt h a n g) (hn : n ≤ 1000) (hnc : n ≤ c) (ho : Own h0 h L)
    (hk : ∀ h' oa on oc o, Own h0 h' (L ++ (o ++ [])) → SlO nf 1 3 oa on oc (numbers0 mk g).2.1 o → Kr (numbers0 mk g).1 oa on oc (numbers0 mk g).2.2.1 (numbers0 mk g).2.2.2 h') : vt_Screen_numbers_j0 Kr a n c mk h := by
  have ho0 : Own h0 h (L ++ ([] ++ [])) := by simpa using ho
  have hb := hB h [] ho0
  have hl := hb.1
  unfold vt_Screen_numbers_j0
  refine ⟨n + 1, ?_⟩
  refine numbers_l1 hb hn n 0 (by omega) (by omega) ?_
  unfold numbers0 at hk
  rw [hl] at hn hnc ⊢
  rw [hl] at hB
  have hee := endV_le g g.length 0
  generalize endV g g.length 0 = e at *
  refine ⟨by omega, by omega, ?_⟩
  rw [show ((e : Int)).toNat = e by omega]
  rw [hl] at hb
  refine (hb.cut hnc e (by omega)).byts ?_
  have hsz := bytesOf_size (g.drop e)
  rw [List.length_drop] at hsz
  refine ⟨(bytesOf (g.drop e)).size + 1, ?_⟩
  generalize bytesOf (g.drop e) = bs at *
  refine numbers_l2 (by omega) bs.size 0 (by omega) (by omega) (fun hbad => ?_) (fun hbad => ?_)
  · simp only [if_pos hbad] at hk
    exact hk h none 0 0 [] ho0 SlO.nil
  · simp only [hbad, Bool.false_eq_true, if_false] at hk
    refine ⟨e + 1, ?_⟩
    refine numbers_l3 hB (by omega) (by omega) e 0 h none 0 0 [] [] (-1) (by omega) (by omega) (by omega) ho0 SlO.nil fun hh oa on oc o ho1 hs1 => ?_
    have hlen := numsL_len g e 0 [] (-1)
    simp only [List.length_nil] at hlen
    have hon := hs1.1
    generalize numsL g e 0 [] (-1) = r at *
    by_cases h1 : 0 < e
    · simp only [if_pos h1] at hk
      rw [if_pos (by omega)]
      refine gap_o ho1 fun h2 ho2 => ?_
      refine SlO.app (f := nf) (sz := 1) (js := [r.2]) nf_len rfl hs1 ho2 (by simp only [List.length_singleton]; omega) (by simp only [List.length_singleton]; omega) fun a' c' o' h' ho3 hs3 => ?_
      have := hk h' a' _ c' o' ho3 hs3
      unfold vt_Screen_numbers_j4
      have e1 : ((r.1 ++ [r.2]).length : Int) = ((on + 1 : Nat) : Int) := by rw [List.length_append, List.length_singleton, hon]
      rw [e1] at this
      exact this
    · simp only [if_neg h1] at hk
      rw [if_neg (by omega)]
      have := hk hh oa _ oc o ho1 hs1
      unfold vt_Screen_numbers_j4
      rw [← hon] at this
      exact this
def numbersV (g : List Int) : Int × List Int × ByteArray × Bool :=
  if 0 < g.length ∧ 60 ≤ g.getD 0 0 ∧ g.getD 0 0 ≤ 63 then numbers0 (g.getD 0 0) (g.drop 1) else numbers0 0 g
theorem gath_at {h0 : Base} {h : Heap} {s : Nat} {cs : Array Value} {S : Scr} {A : Refs} {oM oO oP oT oG oK oL o : Blks} (hp : Parts S A oM oO oP oT oG oK oL) (ho : Own h0 h (((s, cs, 69) :: (oM ++ (oO ++ (oP ++ (oT ++ (oG ++ (oK ++ oL))))))) ++ (o ++ []))) : BAt h A.g A.gn S.gathered := by
  refine ⟨hp.gath.1, fun i hi => ?_⟩
  have ho1 : Own h0 h (((s, cs, 69) :: (oM ++ (oO ++ (oP ++ oT)))) ++ (oG ++ (oK ++ (oL ++ o)))) := by simpa using ho
  obtain ⟨p, hpp, d⟩ := SlO.get bf_len hp.gath ho1 i 0 hi
  exact ⟨p, hpp, d 0 _ rfl⟩
theorem slo_cap {α : Type} {f : α → List Value} {sz : Nat} {t : TypeId} {a : Option Addr} {n c : Nat} {ks : List α} {o : Blks} (hs : SlO f sz t a n c ks o) : n ≤ c := by
  obtain ⟨_, ⟨_, _, h3, h4⟩ | ⟨_, _, _, _, _, _, _, hle⟩⟩ := hs
  · subst h4; have := ‹n = _›; simp at this; omega
  · exact hle
theorem numbers_sp {h0 : Base} {h : Heap} {s : Nat} {S : Scr} {K : Int → Option Addr → Nat → Nat → ByteArray → Bool → Heap → Prop} (hs : Rep h0 h s S) (ok : Ok S)
    (hk : ∀ h1 oa on oc o, RepX h0 h1 s S o → SlO nf 1 3 oa on oc (numbersV S.gathered).2.1 o → K (numbersV S.gathered).1 oa on oc (numbersV S.gathered).2.2.1 (numbersV S.gathered).2.2.2 h1) : vt_Screen_numbers (some ⟨s, 0, none⟩) K h := by
  obtain ⟨A, oM, oO, oP, oT, oG, oK, oL, ho, hp⟩ := hs
  have hgl := ok.c.gath
  have hn := hp.gath.1
  have hcap := slo_cap hp.gath
  have hk1 : ∀ h1 oa on oc o, Own h0 h1 (((s, scrC S A, 69) :: (oM ++ (oO ++ (oP ++ (oT ++ (oG ++ (oK ++ oL))))))) ++ (o ++ [])) → SlO nf 1 3 oa on oc (numbersV S.gathered).2.1 o → K (numbersV S.gathered).1 oa on oc (numbersV S.gathered).2.2.1 (numbersV S.gathered).2.2.2 h1 := by
    intro h1 oa on oc o ho1 hs1
    exact hk h1 oa on oc o ⟨A, oM, oO, oP, oT, oG, oK, oL, by simpa using ho1, hp⟩ hs1
  clear hk
  unfold vt_Screen_numbers
  unfold numbersV at hk1
  refine nz_i ?_
  simp only [add0, Nat.zero_add]
  refine ldL0 ho rfl ?_
  have hB : ∀ h o, Own h0 h (((s, scrC S A, 69) :: (oM ++ (oO ++ (oP ++ (oT ++ (oG ++ (oK ++ oL))))))) ++ (o ++ [])) → BAt h A.g A.gn S.gathered := fun h o ho => gath_at hp ho
  have hb := hB h [] (by simpa using ho)
  by_cases h1 : 0 < A.gn
  · rw [if_pos (by omega)]
    obtain ⟨p, hpp, hd⟩ := hb.2 0 h1
    rw [hpp]
    refine nz_i ⟨by omega, by omega, ⟨_, hd, ?_⟩⟩
    show if 60 ≤ S.gathered.getD 0 0 then _ else _
    by_cases h2 : 60 ≤ S.gathered.getD 0 0
    · rw [if_pos h2]
      refine ⟨by omega, by omega, ⟨_, hd, ?_⟩⟩
      show if S.gathered.getD 0 0 ≤ 63 then _ else _
      by_cases h3 : S.gathered.getD 0 0 ≤ 63
      · rw [if_pos h3]
        rw [if_pos ⟨by omega, h2, h3⟩] at hk1
        refine ⟨by omega, by omega, ⟨_, hd, ⟨by omega, ?_⟩⟩⟩
        rw [← hpp]
        exact numbers_j0 (fun h o ho => (hB h o ho).cut hcap 1 (by omega)) (by omega) (by show A.gn - 1 ≤ A.gc - 1; omega) ho hk1
      · rw [if_neg h3]
        rw [if_neg (fun hh => h3 hh.2.2)] at hk1
        rw [← hpp]
        exact numbers_j0 hB (by omega) hcap ho hk1
    · rw [if_neg h2]
      rw [if_neg (fun hh => h2 hh.2.1)] at hk1
      rw [← hpp]
      exact numbers_j0 hB (by omega) hcap ho hk1
  · rw [if_neg (by omega)]
    rw [if_neg (fun hh => h1 (by omega))] at hk1
    exact numbers_j0 hB (by omega) hcap ho hk1
end Go.Proofs.YthjdnhhifjpidaaDoor.M
