import Derived.Test.YthjdnhhifjpidaaDoorU18
set_option linter.unusedVariables false
set_option linter.unusedSimpArgs false
set_option maxRecDepth 100000
namespace Go.Proofs.YthjdnhhifjpidaaDoor.M
open Go Go.Hp

/-! ### Loads and stores of the screen's own cells -/
theorem RepX.ldi {h0 : Base} {h : Heap} {s : Nat} {S : Scr} {X : Blks} {off : Nat} {k : IntKind} {v : Int} {K : Int → Prop} (hs : RepX h0 h s S X) (e : ∀ A, (scrC S A)[off]? = some (.int k v)) (hk : K v) : ldI h k ⟨s, off, none⟩ K := by
  obtain ⟨A, oM, oO, oP, oT, oG, oK, oL, ho, hp⟩ := hs
  exact ldI0 ho (e A) hk
theorem RepX.ldb {h0 : Base} {h : Heap} {s : Nat} {S : Scr} {X : Blks} {off : Nat} {v : Bool} {K : Bool → Prop} (hs : RepX h0 h s S X) (e : ∀ A, (scrC S A)[off]? = some (.bool v)) (hk : K v) : ldB h ⟨s, off, none⟩ K := by
  obtain ⟨A, oM, oO, oP, oT, oG, oK, oL, ho, hp⟩ := hs
  exact ldB0 ho (e A) hk
theorem Rep.ldi {h0 : Base} {h : Heap} {s : Nat} {S : Scr} {off : Nat} {k : IntKind} {v : Int} {K : Int → Prop} (hs : Rep h0 h s S) (e : ∀ A, (scrC S A)[off]? = some (.int k v)) (hk : K v) : ldI h k ⟨s, off, none⟩ K := by
  obtain ⟨A, oM, oO, oP, oT, oG, oK, oL, ho, hp⟩ := hs
  exact ldI0 ho (e A) hk
theorem Rep.ldb {h0 : Base} {h : Heap} {s : Nat} {S : Scr} {off : Nat} {v : Bool} {K : Bool → Prop} (hs : Rep h0 h s S) (e : ∀ A, (scrC S A)[off]? = some (.bool v)) (hk : K v) : ldB h ⟨s, off, none⟩ K := by
  obtain ⟨A, oM, oO, oP, oT, oG, oK, oL, ho, hp⟩ := hs
  exact ldB0 ho (e A) hk
theorem scrC_size (S : Scr) (A : Refs) : (scrC S A).size = 41 := rfl
theorem RepX.stp {h0 : Base} {h : Heap} {s : Nat} {S : Scr} {X : Blks} {off : Nat} {vs : List Value} {K : Heap → Prop} (p : Pl) (hs : RepX h0 h s S X) (hle : off + vs.length ≤ 41) (e : ∀ A, setL (scrC S A) off vs = scrC (S.setPl p) A) (hk : ∀ h1, RepX h0 h1 s (S.setPl p) X → K h1) : stN ⟨s, off, none⟩ vs 0 h K := by
  obtain ⟨A, oM, oO, oP, oT, oG, oK, oL, ho, hp⟩ := hs
  refine st0 ho (Nat.ble_eq_true_of_le (by rw [scrC_size]; exact hle)) fun h1 ho1 => hk h1 ?_
  have ho1 := own_cs ho1 (e A)
  exact ⟨A, oM, oO, oP, oT, oG, oK, oL, by assumption, hp.1, hp.2, hp.3, hp.4, hp.5, hp.6, hp.7⟩

/-! ### The numbers that were given -/
def IAt (h : Heap) (a : Option Addr) (n : Nat) (l : List Int) : Prop := n = l.length ∧ ∀ i, i < n → ∃ p, a = some p ∧ cellH h (p.add (i * 1)) = some (.int .i64 (l.getD i 0))
theorem RepX.ints {h0 : Base} {h : Heap} {s : Nat} {S : Scr} {o X : Blks} {a : Option Addr} {n c : Nat} {l : List Int} (hs : RepX h0 h s S (o ++ X)) (hl : SlO nf 1 3 a n c l o) : IAt h a n l := by
  obtain ⟨A, oM, oO, oP, oT, oG, oK, oL, ho, hp⟩ := hs
  refine ⟨hl.1, fun i hi => ?_⟩
  have ho1 : Own h0 h (((s, scrC S A, 69) :: (oM ++ (oO ++ (oP ++ (oT ++ (oG ++ (oK ++ oL))))))) ++ (o ++ X)) := by simpa using ho
  obtain ⟨p, hpp, d⟩ := SlO.get nf_len hl ho1 i 0 hi
  exact ⟨p, hpp, d 0 _ rfl⟩
theorem IAt.cut {h : Heap} {a : Option Addr} {n c : Nat} {g : List Int} (hb : IAt h a n g) (hc : n ≤ c) (e : Nat) (he : e ≤ n) : IAt h (cutA a c e 1) (n - e) (g.drop e) := by
  obtain ⟨hn, hd⟩ := hb
  refine ⟨by rw [List.length_drop, hn], fun i hi => ?_⟩
  obtain ⟨p, rfl, hp⟩ := hd (e + i) (by omega)
  unfold cutA
  rw [if_neg (by omega)]
  refine ⟨p.add (e * 1), rfl, ?_⟩
  rw [addadd, List.getD_eq_getElem?_getD, List.getElem?_drop, ← List.getD_eq_getElem?_getD, show e * 1 + i * 1 = (e + i) * 1 by omega]
  exact hp
def atV (l : List Int) (i : Nat) (d : Int) : Int := if i < l.length then if 0 ≤ l.getD i 0 then l.getD i 0 else d else d
theorem at_sp {h : Heap} {a : Option Addr} {n c : Nat} {l : List Int} {d : Int} {K : Int → Heap → Prop} (hb : IAt h a n l) (i : Nat) (hk : K (atV l i d) h) : vt_at a n c (i : Int) d K h := by
  have hn := hb.1
  unfold vt_at
  unfold atV at hk
  by_cases h1 : i < l.length
  · rw [if_pos h1] at hk
    rw [if_pos (by omega)]
    obtain ⟨p, hp, hd⟩ := hb.2 i (by omega)
    rw [hp]
    have hte : ((i : Int)).toNat = i := by omega
    refine nz_i ⟨by omega, by omega, ⟨_, by rw [hte]; exact hd, ?_⟩⟩
    show if 0 ≤ l.getD i 0 then _ else _
    by_cases h2 : 0 ≤ l.getD i 0
    · rw [if_pos h2] at hk ⊢
      exact ⟨by omega, by omega, ⟨_, by rw [hte]; exact hd, hk⟩⟩
    · rw [if_neg h2] at hk ⊢
      exact hk
  · rw [if_neg h1] at hk
    rw [if_neg (by omega)]
    exact hk

/-! ### A colour -/
def colL (l : List Int) : Nat → Nat → Int → Int × Int
  | 0, _, c => (IntKind.wrap .i64 (257 + c), 4)
  | q + 1, i, c => if 255 < l.getD (1 + i) 0 then (-1, 4) else colL l q (i + 1) (IntKind.wrap .i64 ((IntKind.wrap .i64 (c * 256)) + (imax 0 (l.getD (1 + i) 0))))
def colourV (l : List Int) : Int × Int :=
  if 2 ≤ l.length then if l.getD 0 0 = 5 then if 255 < imax 0 (l.getD 1 0) then (-1, 2) else (IntKind.wrap .i64 (imax 0 (l.getD 1 0) + 1), 2)
    else if 4 ≤ l.length then if l.getD 0 0 = 2 then colL l 3 0 0 else (0, 0) else (0, 0) else (0, 0)
theorem colL_used (l : List Int) : ∀ (q i : Nat) (c : Int), (colL l q i c).2 = 4
  | 0, _, _ => rfl
  | q + 1, i, c => by
    unfold colL
    split
    · rfl
    · exact colL_used l q (i + 1) _
theorem colourV_used (l : List Int) : (colourV l).2 = 0 ∨ (colourV l).2 = 2 ∨ (colourV l).2 = 4 := by
  unfold colourV
  split
  · split
    · split
      · exact .inr (.inl rfl)
      · exact .inr (.inl rfl)
    · split
      · split
        · exact .inr (.inr (colL_used l 3 0 0))
        · exact .inl rfl
      · exact .inl rfl
  · exact .inl rfl
theorem colour_l0 {h : Heap} {p : Addr} {c : Nat} {l : List Int} {K : Int → Int → Heap → Prop} (hd : ∀ i, i < 3 → cellH h (p.add (i * 1)) = some (.int .i64 (l.getD (1 + i) 0))) :
    ∀ (q : Nat) (i : Nat) (y : Int), 3 - i = q → i ≤ 3 → K (colL l q i y).1 (colL l q i y).2 h → vt_colour_l0 (fun z54 h55 => K (IntKind.wrap .i64 (257 + z54)) 4 h55) (fun z57 z58 h59 => K z57 z58 h59) (q + 1) y (some p) 3 c 3 i h := by
  intro q
  induction q with
  | zero =>
    intro i y hq hi hk
    unfold vt_colour_l0
    rw [if_neg (by omega)]
    exact hk
  | succ q ih =>
    intro i y hq hi hk
    unfold vt_colour_l0
    rw [if_pos (by omega)]
    unfold colL at hk
    have hte : ((i : Int)).toNat = i := by omega
    refine nz_i ⟨by omega, by omega, ⟨_, by rw [hte]; exact hd i (by omega), ?_⟩⟩
    show if 255 < l.getD (1 + i) 0 then _ else _
    by_cases h1 : 255 < l.getD (1 + i) 0
    · rw [if_pos h1] at hk ⊢
      exact hk
    · rw [if_neg h1] at hk ⊢
      rw [wrap64 (x := (i : Int) + 1) (by omega) (by omega), show (i : Int) + 1 = ((i + 1 : Nat) : Int) by omega]
      exact ih (i + 1) _ (by omega) (by omega) hk
theorem colour_sp {h : Heap} {a : Option Addr} {n c : Nat} {l : List Int} {K : Int → Int → Heap → Prop} (hb : IAt h a n l) (hc : n ≤ c) (hk : K (colourV l).1 (colourV l).2 h) : vt_colour a n c K h := by
  have hn := hb.1
  unfold vt_colour
  unfold colourV at hk
  by_cases h1 : 2 ≤ l.length
  · rw [if_pos h1] at hk
    rw [if_pos (by omega)]
    obtain ⟨p, hp, hd⟩ := hb.2 0 (by omega)
    obtain ⟨p', hp', hd'⟩ := hb.2 1 (by omega)
    obtain rfl : p = p' := Option.some.inj (hp.symm.trans hp')
    have hb2 := hb.2
    rw [hp]
    refine nz_i ⟨by omega, by omega, ⟨_, hd, ?_⟩⟩
    show if l.getD 0 0 = 5 then _ else _
    by_cases h2 : l.getD 0 0 = 5
    · rw [if_pos h2] at hk ⊢
      refine ⟨by omega, by omega, ⟨_, hd', ?_⟩⟩
      show if 255 < imax 0 (l.getD 1 0) then _ else _
      by_cases h3 : 255 < imax 0 (l.getD 1 0)
      · rw [if_pos h3] at hk ⊢
        exact hk
      · rw [if_neg h3] at hk ⊢
        exact hk
    rw [if_neg h2] at hk ⊢
    by_cases h3 : 4 ≤ l.length
    · rw [if_pos h3] at hk
      rw [if_pos (by omega)]
      refine ⟨by omega, by omega, ⟨_, hd, ?_⟩⟩
      show if l.getD 0 0 = 2 then _ else _
      by_cases h4 : l.getD 0 0 = 2
      · rw [if_pos h4] at hk ⊢
        refine ⟨by omega, by omega, ⟨4, ?_⟩⟩
        have e : cutA (some p) c (1 : Int).toNat 1 = some (p.add 1) := by
          unfold cutA
          rw [if_neg (show ¬ c = (1 : Int).toNat by show ¬ c = 1; omega)]
          rfl
        rw [e]
        refine colour_l0 (l := l) (fun i hi => ?_) 3 0 0 (by omega) (by omega) hk
        obtain ⟨p2, hp2, hd2⟩ := hb2 (1 + i) (by omega)
        obtain rfl : p = p2 := Option.some.inj (hp.symm.trans hp2)
        rw [addadd, show 1 + i * 1 = (1 + i) * 1 by omega]
        exact hd2
      · rw [if_neg h4] at hk ⊢
        exact hk
    · rw [if_neg h3] at hk
      rw [if_neg (by omega)]
      exact hk
  · rw [if_neg h1] at hk
    rw [if_neg (by omega), if_neg (by omega)]
    exact hk

/-! ### The pen -/
def marksL : List Int := [0, 1, 2, 4, 8, 16, 0, 32, 64, 128]
def pensL (l : List Int) : Nat → Nat → Scr → Scr
  | 0, _, S => S
  | q + 1, i, S =>
    if i < l.length then
    if imax 0 (l.getD i 0) = 0 then pensL l q (i + 1) (S.setPl { S.pl with fore := 0, back := 0, marks := 0 }) else
    if imax 0 (l.getD i 0) < 10 then pensL l q (i + 1) (S.setPl { S.pl with marks := iOr .i64 S.pl.marks (marksL.getD (imax 0 (l.getD i 0)).toNat 0) }) else
    if imax 0 (l.getD i 0) = 21 then pensL l q (i + 1) (S.setPl { S.pl with marks := iOr .i64 S.pl.marks 8 }) else
    if imax 0 (l.getD i 0) = 22 then pensL l q (i + 1) (S.setPl { S.pl with marks := iAndNot .i64 S.pl.marks 3 }) else
    if 23 ≤ imax 0 (l.getD i 0) ∧ imax 0 (l.getD i 0) ≤ 29 then pensL l q (i + 1) (S.setPl { S.pl with marks := iAndNot .i64 S.pl.marks (marksL.getD (imax 0 (l.getD i 0) - 20).toNat 0) }) else
    if 30 ≤ imax 0 (l.getD i 0) ∧ imax 0 (l.getD i 0) ≤ 37 then pensL l q (i + 1) (S.setPl { S.pl with fore := imax 0 (l.getD i 0) - 29 }) else
    if 40 ≤ imax 0 (l.getD i 0) ∧ imax 0 (l.getD i 0) ≤ 47 then pensL l q (i + 1) (S.setPl { S.pl with back := imax 0 (l.getD i 0) - 39 }) else
    if 90 ≤ imax 0 (l.getD i 0) ∧ imax 0 (l.getD i 0) ≤ 97 then pensL l q (i + 1) (S.setPl { S.pl with fore := imax 0 (l.getD i 0) - 81 }) else
    if 100 ≤ imax 0 (l.getD i 0) ∧ imax 0 (l.getD i 0) ≤ 107 then pensL l q (i + 1) (S.setPl { S.pl with back := imax 0 (l.getD i 0) - 91 }) else
    if imax 0 (l.getD i 0) = 39 then pensL l q (i + 1) (S.setPl { S.pl with fore := 0 }) else
    if imax 0 (l.getD i 0) = 49 then pensL l q (i + 1) (S.setPl { S.pl with back := 0 }) else
    if imax 0 (l.getD i 0) = 38 ∨ imax 0 (l.getD i 0) = 48 then
      if (colourV (l.drop (i + 1))).2 = 0 then S else
      if 0 ≤ (colourV (l.drop (i + 1))).1 ∧ imax 0 (l.getD i 0) = 38 then pensL l q (i + (colourV (l.drop (i + 1))).2.toNat + 1) (S.setPl { S.pl with fore := (colourV (l.drop (i + 1))).1 }) else
      if 0 ≤ (colourV (l.drop (i + 1))).1 then pensL l q (i + (colourV (l.drop (i + 1))).2.toNat + 1) (S.setPl { S.pl with back := (colourV (l.drop (i + 1))).1 }) else
      pensL l q (i + (colourV (l.drop (i + 1))).2.toNat + 1) S
    else pensL l q (i + 1) S else S
theorem Ok.pen {S : Scr} (o : Ok S) (f b m : Int) : Ok (S.setPl { S.pl with fore := f, back := b, marks := m }) := Ok.setPl (p := { S.pl with fore := f, back := b, marks := m }) o ⟨o.c.p.x0, o.c.p.x1, o.c.p.y0, o.c.p.y1⟩
theorem ite_ok {c : Prop} [Decidable c] {a b : Scr} (ha : c → Ok a) (hb : ¬c → Ok b) : Ok (if c then a else b) := by
  by_cases h : c
  · rw [if_pos h]; exact ha h
  · rw [if_neg h]; exact hb h
theorem ite_p {c : Prop} [Decidable c] {a b : Prop} (ha : c → a) (hb : ¬c → b) : if c then a else b := by
  by_cases h : c
  · rw [if_pos h]; exact ha h
  · rw [if_neg h]; exact hb h
theorem Ok.pensL (l : List Int) : ∀ (q i : Nat) (S : Scr), Ok S → Ok (pensL l q i S)
  | 0, _, S, o => o
  | q + 1, i, S, o => by
    unfold M.pensL
    refine ite_ok (fun _ => ?_) (fun _ => o)
    refine ite_ok (fun _ => Ok.pensL l q _ _ (o.pen _ _ _)) (fun _ => ?_)
    refine ite_ok (fun _ => Ok.pensL l q _ _ (o.pen _ _ _)) (fun _ => ?_)
    refine ite_ok (fun _ => Ok.pensL l q _ _ (o.pen _ _ _)) (fun _ => ?_)
    refine ite_ok (fun _ => Ok.pensL l q _ _ (o.pen _ _ _)) (fun _ => ?_)
    refine ite_ok (fun _ => Ok.pensL l q _ _ (o.pen _ _ _)) (fun _ => ?_)
    refine ite_ok (fun _ => Ok.pensL l q _ _ (o.pen _ _ _)) (fun _ => ?_)
    refine ite_ok (fun _ => Ok.pensL l q _ _ (o.pen _ _ _)) (fun _ => ?_)
    refine ite_ok (fun _ => Ok.pensL l q _ _ (o.pen _ _ _)) (fun _ => ?_)
    refine ite_ok (fun _ => Ok.pensL l q _ _ (o.pen _ _ _)) (fun _ => ?_)
    refine ite_ok (fun _ => Ok.pensL l q _ _ (o.pen _ _ _)) (fun _ => ?_)
    refine ite_ok (fun _ => Ok.pensL l q _ _ (o.pen _ _ _)) (fun _ => ?_)
    refine ite_ok (fun _ => ?_) (fun _ => Ok.pensL l q _ _ o)
    refine ite_ok (fun _ => o) (fun _ => ?_)
    refine ite_ok (fun _ => Ok.pensL l q _ _ (o.pen _ _ _)) (fun _ => ?_)
    refine ite_ok (fun _ => Ok.pensL l q _ _ (o.pen _ _ _)) (fun _ => ?_)
    exact Ok.pensL l q _ _ o
abbrev marksC : Array Value := #[.int .i64 0, .int .i64 1, .int .i64 2, .int .i64 4, .int .i64 8, .int .i64 16, .int .i64 0, .int .i64 32, .int .i64 64, .int .i64 128]
theorem marks_at {h : Heap} {b : Nat} (hb : Blk h b marksC 116) (i : Int) (h0 : 0 ≤ i) (h1 : i < 10) {K : Int → Prop} (hk : K (marksL.getD i.toNat 0)) : ldI h .i64 ⟨b, i.toNat * 1, none⟩ K := by
  rw [Nat.mul_one]
  refine ⟨_, hb.cell i.toNat ?_, hk⟩
  have : i.toNat < 10 := by omega
  generalize i.toNat = j at *
  match j, this with
  | 0, _ => rfl
  | 1, _ => rfl
  | 2, _ => rfl
  | 3, _ => rfl
  | 4, _ => rfl
  | 5, _ => rfl
  | 6, _ => rfl
  | 7, _ => rfl
  | 8, _ => rfl
  | 9, _ => rfl
  | n + 10, h => omega
theorem imax0 (x : Int) : 0 ≤ imax 0 x := by unfold imax; split <;> omega
theorem pens_l1 {h0 : Base} {s b : Nat} {o : Blks} {a : Option Addr} {n c : Nat} {l : List Int} {K : Heap → Prop} (hl : SlO nf 1 3 a n c l o) (hn : n ≤ 1000) :
    ∀ (q i : Nat) (S : Scr) (h : Heap), RepX h0 h s S (o ++ [(b, marksC, 116)]) → n ≤ q + i → (∀ h1, RepX h0 h1 s (pensL l q i S) (o ++ [(b, marksC, 116)]) → K h1) →
      vt_Screen_pens_l1 (fun h124 => K h124) (fun h126 => K h126) (q + 1) (some ⟨s, 0, none⟩) a n c b i h := by
  have hnl := hl.1
  have hnc := slo_cap hl
  intro q
  induction q with
  | zero =>
    intro i S h hs hq hk
    unfold vt_Screen_pens_l1
    rw [if_neg (by omega)]
    exact hk h hs
  | succ q ih =>
    intro i S h hs hq hk
    unfold vt_Screen_pens_l1
    unfold pensL at hk
    by_cases hi : i < l.length
    case neg =>
      rw [if_neg hi] at hk
      rw [if_neg (by omega)]
      exact hk h hs
    rw [if_pos hi] at hk
    rw [if_pos (by omega)]
    have hints := hs.ints hl
    obtain ⟨p, hp, hd⟩ := hints.2 i (by omega)
    have hte : ((i : Int)).toNat = i := by omega
    have hbk : Blk h b marksC 116 := by
      obtain ⟨A, oM, oO, oP, oT, oG, oK, oL, ho, hp⟩ := hs
      exact (ho.blk (b, marksC, 116) (by simp)).1
    subst hp
    refine nz_i ⟨by omega, by omega, ⟨_, by rw [hte]; exact hd, ?_⟩⟩
    simp only []
    have hx0 := imax0 (l.getD i 0)
    rw [wrap64 (x := (i : Int) + 1) (by omega) (by omega)]
    have e1 : (i : Int) + 1 = ((i + 1 : Nat) : Int) := by omega
    rw [e1]
    have hcut := hints.cut hnc (i + 1) (by omega)
    generalize imax 0 (l.getD i 0) = x at *
    refine ite_p (fun h1 => ?_) (fun h1 => ?_)
    · rw [if_pos h1] at hk
      refine nz_i ?_
      simp only [add0, Nat.zero_add]
      exact hs.stp { S.pl with fore := 0, back := 0, marks := 0 } (by simp) (fun A => by kernel_rfl) fun h2 hs2 => ih (i + 1) _ h2 hs2 (by omega) hk
    rw [if_neg h1] at hk
    refine ite_p (fun h2 => ?_) (fun h2 => ?_)
    · rw [if_pos h2] at hk
      refine nz_i ?_
      simp only [add0, Nat.zero_add]
      refine hs.ldi (fun A => rfl) ⟨hx0, h2, marks_at hbk x hx0 h2 ?_⟩
      exact hs.stp { S.pl with marks := iOr .i64 S.pl.marks (marksL.getD x.toNat 0) } (by simp) (fun A => by kernel_rfl) fun h2 hs2 => ih (i + 1) _ h2 hs2 (by omega) hk
    rw [if_neg h2] at hk
    refine ite_p (fun h3 => ?_) (fun h3 => ?_)
    · rw [if_pos h3] at hk
      refine nz_i ?_
      simp only [add0, Nat.zero_add]
      refine hs.ldi (fun A => rfl) ?_
      exact hs.stp { S.pl with marks := iOr .i64 S.pl.marks 8 } (by simp) (fun A => by kernel_rfl) fun h2 hs2 => ih (i + 1) _ h2 hs2 (by omega) hk
    rw [if_neg h3] at hk
    refine ite_p (fun h4 => ?_) (fun h4 => ?_)
    · rw [if_pos h4] at hk
      refine nz_i ?_
      simp only [add0, Nat.zero_add]
      refine hs.ldi (fun A => rfl) ?_
      exact hs.stp { S.pl with marks := iAndNot .i64 S.pl.marks 3 } (by simp) (fun A => by kernel_rfl) fun h2 hs2 => ih (i + 1) _ h2 hs2 (by omega) hk
    rw [if_neg h4] at hk
    refine ite_p (fun h5 => ?_) (fun h5 => ?_)
    · have h5 : 23 ≤ x ∧ x ≤ 29 := by simpa using h5
      rw [if_pos h5] at hk
      refine nz_i ?_
      simp only [add0, Nat.zero_add]
      rw [wrap64 (x := x - 20) (by omega) (by omega)]
      refine hs.ldi (fun A => rfl) ⟨by omega, by omega, marks_at hbk (x - 20) (by omega) (by omega) ?_⟩
      exact hs.stp { S.pl with marks := iAndNot .i64 S.pl.marks (marksL.getD (x - 20).toNat 0) } (by simp) (fun A => by kernel_rfl) fun h2 hs2 => ih (i + 1) _ h2 hs2 (by omega) hk
    rw [if_neg (by simpa using h5)] at hk
    refine ite_p (fun h6 => ?_) (fun h6 => ?_)
    · have h6 : 30 ≤ x ∧ x ≤ 37 := by simpa using h6
      rw [if_pos h6] at hk
      refine nz_i ?_
      simp only [add0, Nat.zero_add]
      rw [wrap64 (x := x - 29) (by omega) (by omega)]
      exact hs.stp { S.pl with fore := x - 29 } (by simp) (fun A => by kernel_rfl) fun h2 hs2 => ih (i + 1) _ h2 hs2 (by omega) hk
    rw [if_neg (by simpa using h6)] at hk
    refine ite_p (fun h7 => ?_) (fun h7 => ?_)
    · have h7 : 40 ≤ x ∧ x ≤ 47 := by simpa using h7
      rw [if_pos h7] at hk
      refine nz_i ?_
      simp only [add0, Nat.zero_add]
      rw [wrap64 (x := x - 39) (by omega) (by omega)]
      exact hs.stp { S.pl with back := x - 39 } (by simp) (fun A => by kernel_rfl) fun h2 hs2 => ih (i + 1) _ h2 hs2 (by omega) hk
    rw [if_neg (by simpa using h7)] at hk
    refine ite_p (fun h8 => ?_) (fun h8 => ?_)
    · have h8 : 90 ≤ x ∧ x ≤ 97 := by simpa using h8
      rw [if_pos h8] at hk
      refine nz_i ?_
      simp only [add0, Nat.zero_add]
      rw [wrap64 (x := x - 81) (by omega) (by omega)]
      exact hs.stp { S.pl with fore := x - 81 } (by simp) (fun A => by kernel_rfl) fun h2 hs2 => ih (i + 1) _ h2 hs2 (by omega) hk
    rw [if_neg (by simpa using h8)] at hk
    refine ite_p (fun h9 => ?_) (fun h9 => ?_)
    · have h9 : 100 ≤ x ∧ x ≤ 107 := by simpa using h9
      rw [if_pos h9] at hk
      refine nz_i ?_
      simp only [add0, Nat.zero_add]
      rw [wrap64 (x := x - 91) (by omega) (by omega)]
      exact hs.stp { S.pl with back := x - 91 } (by simp) (fun A => by kernel_rfl) fun h2 hs2 => ih (i + 1) _ h2 hs2 (by omega) hk
    rw [if_neg (by simpa using h9)] at hk
    refine ite_p (fun h10 => ?_) (fun h10 => ?_)
    · rw [if_pos h10] at hk
      refine nz_i ?_
      simp only [add0, Nat.zero_add]
      exact hs.stp { S.pl with fore := 0 } (by simp) (fun A => by kernel_rfl) fun h2 hs2 => ih (i + 1) _ h2 hs2 (by omega) hk
    rw [if_neg h10] at hk
    refine ite_p (fun h11 => ?_) (fun h11 => ?_)
    · rw [if_pos h11] at hk
      refine nz_i ?_
      simp only [add0, Nat.zero_add]
      exact hs.stp { S.pl with back := 0 } (by simp) (fun A => by kernel_rfl) fun h2 hs2 => ih (i + 1) _ h2 hs2 (by omega) hk
    rw [if_neg h11] at hk
    refine ite_p (fun h12 => ?_) (fun h12 => ?_)
    · have h12 : x = 38 ∨ x = 48 := by simpa using h12
      rw [if_pos h12] at hk
      refine ⟨by omega, by omega, ?_⟩
      rw [show (((i + 1 : Nat) : Int)).toNat = i + 1 by omega]
      refine colour_sp hcut (by omega) ?_
      have hu := colourV_used (l.drop (i + 1))
      generalize colourV (l.drop (i + 1)) = r at *
      by_cases h13 : r.2 = 0
      · rw [if_pos h13] at hk ⊢
        exact hk h hs
      rw [if_neg h13] at hk ⊢
      rw [wrap64 (x := (i : Int) + r.2) (by omega) (by omega), wrap64 (x := (i : Int) + r.2 + 1) (by omega) (by omega), show (i : Int) + r.2 + 1 = ((i + r.2.toNat + 1 : Nat) : Int) by omega]
      by_cases h14 : 0 ≤ r.1 ∧ x = 38
      · rw [if_pos h14] at hk
        rw [if_pos (by simpa using h14)]
        refine nz_i ?_
        simp only [add0, Nat.zero_add]
        exact hs.stp { S.pl with fore := r.1 } (by simp) (fun A => by kernel_rfl) fun h2 hs2 => ih _ _ h2 hs2 (by omega) hk
      rw [if_neg h14] at hk
      rw [if_neg (by simpa using h14)]
      by_cases h15 : 0 ≤ r.1
      · rw [if_pos h15] at hk ⊢
        refine nz_i ?_
        simp only [add0, Nat.zero_add]
        exact hs.stp { S.pl with back := r.1 } (by simp) (fun A => by kernel_rfl) fun h2 hs2 => ih _ _ h2 hs2 (by omega) hk
      · rw [if_neg h15] at hk ⊢
        exact ih _ _ h hs (by omega) hk
    · rw [if_neg (by simpa using h12)] at hk
      exact ih (i + 1) _ h hs (by omega) hk
def pensV (S : Scr) (l : List Int) : Scr := if l.length = 0 then pensL [0] 1 0 S else pensL l l.length 0 S
theorem Ok.pens {S : Scr} (o : Ok S) (l : List Int) : Ok (pensV S l) := by
  unfold pensV
  split <;> exact Ok.pensL _ _ _ _ o
theorem pens_j0 {h0 : Base} {h : Heap} {s : Nat} {S : Scr} {o : Blks} {a : Option Addr} {n c : Nat} {l : List Int} {K : Heap → Prop} (hs : RepX h0 h s S o) (hl : SlO nf 1 3 a n c l o) (hn : n ≤ 1000) (hk : ∀ h1, Rep h0 h1 s (pensL l n 0 S) → K h1) :
    vt_Screen_pens_j0 (fun h129 => K h129) (fun h131 => K h131) (some ⟨s, 0, none⟩) a n c h := by
  obtain ⟨A, oM, oO, oP, oT, oG, oK, oL, ho, hp⟩ := hs
  unfold vt_Screen_pens_j0
  refine newB_o ho fun b h1 ho1 => ?_
  refine st0 ho1 rfl fun h2 ho2 => ?_
  have ho2 : Own h0 h2 ((s, scrC S A, 69) :: (oM ++ (oO ++ (oP ++ (oT ++ (oG ++ (oK ++ (oL ++ (o ++ [(b, marksC, 116)]))))))))) := Own.perm (l := (b, marksC, 116) :: (s, scrC S A, 69) :: (oM ++ (oO ++ (oP ++ (oT ++ (oG ++ (oK ++ (oL ++ o)))))))) (own_cs ho2 (by kernel_rfl)) (by (classical exact List.perm_iff_count.2 (fun x => by simp only [List.count_append, List.count_cons, List.count_nil]; omega)))
  have hs2 : RepX h0 h2 s S (o ++ [(b, marksC, 116)]) := ⟨A, oM, oO, oP, oT, oG, oK, oL, ho2, hp⟩
  exact ⟨n + 1, pens_l1 hl hn n 0 S h2 hs2 (by omega) fun h3 hs3 => hk h3 hs3.rep⟩
theorem pens_sp {h0 : Base} {h : Heap} {s : Nat} {S : Scr} {o : Blks} {a : Option Addr} {n c : Nat} {l : List Int} {K : Heap → Prop} (hs : RepX h0 h s S o) (hl : SlO nf 1 3 a n c l o) (hn : n ≤ 1000) (hk : ∀ h1, Rep h0 h1 s (pensV S l) → K h1) :
    vt_Screen_pens (some ⟨s, 0, none⟩) a n c K h := by
  have hnl := hl.1
  unfold vt_Screen_pens
  unfold pensV at hk
  by_cases h1 : l.length = 0
  · rw [if_pos h1] at hk
    rw [if_pos (by omega)]
    obtain ⟨A, oM, oO, oP, oT, oG, oK, oL, ho, hp⟩ := hs.rep
    refine newB_o ho fun b h1 ho1 => ?_
    have ho2 : Own h0 h1 ((s, scrC S A, 69) :: (oM ++ (oO ++ (oP ++ (oT ++ (oG ++ (oK ++ (oL ++ [(b, #[.int .i64 0], 3)])))))))) := ho1.perm (by (classical exact List.perm_iff_count.2 (fun x => by simp only [List.count_append, List.count_cons, List.count_nil]; omega)))
    exact pens_j0 ⟨A, oM, oO, oP, oT, oG, oK, oL, ho2, hp⟩ (l := [0]) ⟨rfl, .inr ⟨b, _, [], rfl, rfl, rfl, rfl, Nat.le_refl _⟩⟩ (by omega) hk
  · rw [if_neg h1] at hk
    rw [if_neg (by omega)]
    rw [← hnl] at hk
    exact pens_j0 hs hl hn hk
end Go.Proofs.YthjdnhhifjpidaaDoor.M
