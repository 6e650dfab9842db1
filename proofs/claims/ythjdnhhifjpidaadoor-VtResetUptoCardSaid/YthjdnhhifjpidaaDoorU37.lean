import Derived.Test.YthjdnhhifjpidaaDoorU36
set_option linter.unusedVariables false
set_option linter.unusedSimpArgs false
set_option maxRecDepth 100000
namespace Go.Proofs.YthjdnhhifjpidaaDoor.M
open Go Go.Hp

/-! ### Two pictures of one content are the same -/
theorem ba_beq (s : ByteArray) : (s == s) = true := by
  show (s.data == s.data) = true
  simp
theorem ldI_c {h : Heap} {a : Addr} {k : IntKind} {v : Int} {K : Int → Prop} (hc : cellH h a = some (.int k v)) (hk : K v) : ldI h k a K := ⟨v, hc, hk⟩
theorem ldS_c {h : Heap} {a : Addr} {v : ByteArray} {K : ByteArray → Prop} (hc : cellH h a = some (.string v)) (hk : K v) : ldS h a K := ⟨v, hc, hk⟩
theorem ldL_b {h : Heap} {b off : Nat} {c : Array Value} {t : TypeId} {a : Option Addr} {n cc : Nat} {K : Option Addr → Nat → Nat → Prop} (hb : Blk h b c t) (hv : c[off]? = some (.slice a n cc)) (hk : K a n cc) : ldL h ⟨b, off, none⟩ K := ⟨_, _, _, hb.cell off hv, hk⟩
theorem same_l0 {h : Heap} {b1 b2 : Nat} {w hh x y : Int} {hid : Bool} {t : ByteArray} {w' hh' x' y' : Int} {hid' : Bool} {t' : ByteArray} {a1 a2 : Option Addr} {n c1 c2 : Nat} {ks : List Gl} {K0 : Heap → Prop} {Kr : Bool → Heap → Prop}
    (hb1 : Blk h b1 (picC w hh a1 n c1 x y hid t) 35) (hb2 : Blk h b2 (picC w' hh' a2 n c2 x' y' hid' t') 35)
    (d1 : ∀ i, i < n → ∃ p, a1 = some p ∧ ∀ j v, (gf (ks.getD i gl0))[j]? = some v → cellH h ((p.add (i * 5)).add j) = some v)
    (d2 : ∀ i, i < n → ∃ p, a2 = some p ∧ ∀ j v, (gf (ks.getD i gl0))[j]? = some v → cellH h ((p.add (i * 5)).add j) = some v) (hn : n ≤ 2000000) (hk : K0 h) :
    ∀ (q i : Nat), n - i = q → i ≤ n → law19_same_l0 K0 Kr (q + 1) b1 b2 i h := by
  intro q
  induction q with
  | zero =>
    intro i hq hi
    unfold law19_same_l0
    refine ldL_b hb1 rfl ?_
    rw [if_neg (by omega)]
    exact hk
  | succ q ih =>
    intro i hq hi
    unfold law19_same_l0
    refine ldL_b hb1 rfl ?_
    rw [if_pos (by omega)]
    refine ldL_b hb1 rfl ?_
    obtain ⟨p, hp, e1⟩ := d1 i (by omega)
    obtain ⟨p', hp', e2⟩ := d2 i (by omega)
    have hte : ((i : Int)).toNat = i := by omega
    refine ⟨p, hp, by omega, by omega, ?_⟩
    rw [hte]
    refine ldS_c (e1 0 _ rfl) (ldI_c (e1 1 _ rfl) (ldI_c (e1 2 _ rfl) (ldI_c (e1 3 _ rfl) (ldI_c (e1 4 _ rfl) ?_))))
    refine ldL_b hb2 rfl ?_
    refine ⟨p', hp', by omega, by omega, ?_⟩
    refine ldS_c (e2 0 _ rfl) (ldI_c (e2 1 _ rfl) (ldI_c (e2 2 _ rfl) (ldI_c (e2 3 _ rfl) (ldI_c (e2 4 _ rfl) ?_))))
    rw [if_neg (by rw [ba_beq]; simp)]
    rw [wrap64 (by omega) (by omega), show (i : Int) + 1 = ((i + 1 : Nat) : Int) by omega]
    exact ih (i + 1) (by omega) (by omega)
theorem same_sp {h0 : Base} {h : Heap} {X oc1 oc2 : Blks} {w hh x y : Int} {hid : Bool} {t : ByteArray} {a1 a2 : Option Addr} {n1 n2 c1 c2 : Nat} {ks : List Gl} {K : Bool → Heap → Prop} (ho : Own h0 h (oc1 ++ (oc2 ++ X))) (s1 : SlO gf 5 43 a1 n1 c1 ks oc1) (s2 : SlO gf 5 43 a2 n2 c2 ks oc2) (hl : ks.length ≤ 2000000)
    (hk : ∀ h1, Own h0 h1 (oc1 ++ (oc2 ++ X)) → K true h1) : law19_same w hh a1 n1 c1 x y hid t w hh a2 n2 c2 x y hid t K h := by
  have e1 := s1.1
  have e2 := s2.1
  have e : n2 = n1 := by omega
  subst e
  unfold law19_same
  refine newB_o ho fun b1 h1 ho1 => newB_o ho1 fun b2 h2 ho2 => ?_
  have hb1 := ho2.get1
  have hb2 := ho2.get0
  refine ldI_b hb1 rfl (ldI_b hb2 rfl ?_)
  rw [if_pos rfl]
  refine ldI_b hb1 rfl (ldI_b hb2 rfl ?_)
  rw [if_pos rfl]
  refine ldI_b hb1 rfl (ldI_b hb2 rfl ?_)
  rw [if_pos rfl]
  refine ldI_b hb1 rfl (ldI_b hb2 rfl ?_)
  rw [if_pos rfl]
  refine ldB_b hb1 rfl (ldB_b hb2 rfl ?_)
  rw [if_neg (by simp)]
  refine ldS_b hb1 rfl (ldS_b hb2 rfl ?_)
  rw [if_neg (by simp)]
  refine ldL_b hb1 rfl (ldL_b hb2 rfl ?_)
  rw [if_pos rfl]
  refine ⟨n2 + 1, ?_⟩
  have hoA : Own h0 h2 ([(b2, picC w hh a2 n2 c2 x y hid t, 35), (b1, picC w hh a1 n2 c1 x y hid t, 35)] ++ (oc1 ++ (oc2 ++ X))) := ho2
  have hoB : Own h0 h2 (([(b2, picC w hh a2 n2 c2 x y hid t, 35), (b1, picC w hh a1 n2 c1 x y hid t, 35)] ++ oc1) ++ (oc2 ++ X)) := by simpa using ho2
  exact same_l0 hb1 hb2 (fun i hi => s1.get gf_len hoA i gl0 hi) (fun i hi => s2.get gf_len hoB i gl0 hi) (by omega) (hk h2 ho2.tail.tail) n2 0 (by omega) (by omega)

/-! ### The head of the statements: letters are shown, in colour -/
def worksS : Scr := strV (strV (newV 3 2 0) ⟨#[97, 98, 13, 10, 27, 91, 51, 49]⟩) ⟨#[109, 99]⟩
theorem worksS_l : worksS.sh.flatten = [(⟨#[97]⟩, 1, 0, 0, 0), (⟨#[98]⟩, 1, 0, 0, 0), (⟨#[32]⟩, 1, 0, 0, 0), (⟨#[99]⟩, 1, 2, 0, 0), (⟨#[32]⟩, 1, 0, 0, 0), (⟨#[32]⟩, 1, 0, 0, 0)] := by kernel_rfl
theorem worksS_f : worksS.w = 3 ∧ worksS.h = 2 ∧ worksS.pl.x = 1 ∧ worksS.pl.y = 1 := ⟨by kernel_rfl, by kernel_rfl, by kernel_rfl, by kernel_rfl⟩
theorem works_sp {h : Heap} {K : Bool → Heap → Prop} (ht : Tabs h) (hk : ∀ h1, Ext h h1 → K true h1) : law19_works K h := by
  unfold law19_works
  refine New_sp (X := []) (Own.init h) (fun e h2 he _ => ?_) fun _ _ _ _ _ _ b h2 hs2 => ?_
  · exact nomatch (show (none : Option Int) = some e from he)
  rw [if_neg (by simp)]
  have o := ok_new (w := 3) (h := 2) (most := 0) (by omega) (by omega) (by omega) (by omega) (by omega) (by omega)
  have u := u8_new 3 2 0
  refine Feed_sp ht hs2.rep o u (by decide) fun h3 hs3 => ?_
  refine Feed_sp ht hs3 (o.str _) (u.str _) (by decide) fun h4 hs4 => ?_
  refine Picture_sp hs4 ((o.str _).str _) fun a n c oc h5 hs5 hsl => ?_
  have hsl : SlO gf 5 43 a n c worksS.sh.flatten oc := hsl
  have hf := worksS_f
  show if (((((decide (worksS.w = 3)) && (decide (worksS.h = 2))) && (decide ((n : Int) = 6))) && (decide (worksS.pl.x = 1))) && (decide (worksS.pl.y = 1))) = true then _ else _
  rw [worksS_l] at hsl
  have hn : n = 6 := hsl.1
  rw [if_pos (by rw [hf.1, hf.2.1, hf.2.2.1, hf.2.2.2, hn]; decide)]
  obtain ⟨L, ho, hb⟩ := hs5.own
  have ho : Own (⟨h, []⟩ : Base) h5 (L ++ (oc ++ [])) := by simpa using ho
  obtain ⟨p, hp, _⟩ := hsl.get gf_len ho 0 gl0 (by omega)
  subst hp
  refine nz_i ⟨by omega, by omega, fun h6 he6 => ?_⟩
  have ho6 := ho.gap he6
  obtain ⟨p1, hp1, d1⟩ := hsl.get gf_len ho6 1 gl0 (by omega)
  obtain rfl : p = p1 := Option.some.inj hp1
  obtain ⟨p3, hp3, d3⟩ := hsl.get gf_len ho6 3 gl0 (by omega)
  obtain rfl : p = p3 := Option.some.inj hp3
  obtain ⟨p5, hp5, d5⟩ := hsl.get gf_len ho6 5 gl0 (by omega)
  obtain rfl : p = p5 := Option.some.inj hp5
  refine ldS_c (d1 0 _ rfl) (ldI_c (d1 1 _ rfl) (ldI_c (d1 2 _ rfl) (ldI_c (d1 3 _ rfl) (ldI_c (d1 4 _ rfl) ?_))))
  rw [if_pos (by decide)]
  refine ⟨by omega, by omega, ldS_c (d3 0 _ rfl) (ldI_c (d3 1 _ rfl) (ldI_c (d3 2 _ rfl) (ldI_c (d3 3 _ rfl) (ldI_c (d3 4 _ rfl) ?_))))⟩
  rw [if_pos (by decide)]
  refine ⟨by omega, by omega, ldS_c (d5 0 _ rfl) (ldI_c (d5 1 _ rfl) (ldI_c (d5 2 _ rfl) (ldI_c (d5 3 _ rfl) (ldI_c (d5 4 _ rfl) ?_))))⟩
  exact hk h6 ho6.ext
end Go.Proofs.YthjdnhhifjpidaaDoor.M
