import Derived.Test.YthjdnhhifjpidaaDoorU29
set_option linter.unusedVariables false
set_option linter.unusedSimpArgs false
set_option maxRecDepth 100000
namespace Go.Proofs.YthjdnhhifjpidaaDoor.M
open Go Go.Hp

/-! ### An escape -/
theorem rep_of_all {n : Nat} {r : List Gl} {g : Gl} (hl : n = r.length) (hr : ∀ j, j < n → r.getD j gl0 = g) : r = List.replicate n g := by
  apply List.ext_getElem?
  intro j
  by_cases hj : j < n
  · have := hr j hj
    rw [List.getD_eq_getElem?_getD, List.getElem?_eq_getElem (by omega)] at this
    rw [List.getElem?_eq_getElem (by omega), List.getElem?_replicate, if_pos hj]
    exact congrArg some this
  · rw [List.getElem?_eq_none (by omega), List.getElem?_replicate, if_neg hj]
theorem escaped_l2 {h0 : Base} {pre l : Blks} {z1 : Addr} {z2 : Int} {z3 : Option Addr} {z4 z5 : Nat} {z6 z7 : Int} {a : Option Addr} {n c : Nat} {K3 : Addr → Int → Option Addr → Nat → Nat → Int → Int → Heap → Prop} (hn : n ≤ 100000) :
    ∀ (q : Nat) (i : Nat) (h : Heap) (r : List Gl) (o : Blks), SlO gf 5 43 a n c r o → Own h0 h (pre ++ (o ++ l)) → n - i = q → i ≤ n → (∀ j, j < i → r.getD j gl0 = eG) →
      (∀ h' o', Own h0 h' (pre ++ (o' ++ l)) → SlO gf 5 43 a n c (List.replicate n eG) o' → K3 z1 z2 z3 z4 z5 z6 z7 h') → vt_Screen_escaped_l2 K3 (q + 1) z1 z2 a n c z3 z4 z5 z6 z7 (n : Int) i h := by
  intro q
  induction q with
  | zero =>
    intro i h r o hs ho hq hi hr hk
    unfold vt_Screen_escaped_l2
    rw [if_neg (by omega)]
    have e := rep_of_all hs.1 (fun j hj => hr j (by omega))
    rw [e] at hs
    exact hk h o ho hs
  | succ q ih =>
    intro i h r o hs ho hq hi hr hk
    unfold vt_Screen_escaped_l2
    rw [if_pos (by omega)]
    obtain ⟨p, hp, _⟩ := hs.get gf_len ho i gl0 (by omega)
    rw [hp]
    refine nz_i ⟨by omega, by omega, ?_⟩
    rw [show ((i : Int)).toNat = i by omega]
    refine SlO.set gf_len hs ho i eG (by omega) hp fun h2 o2 ho2 hs2 => ?_
    rw [wrap64 (by omega) (by omega), show (i : Int) + 1 = ((i + 1 : Nat) : Int) by omega, ← hp]
    have hl := hs.1
    refine ih (i + 1) h2 _ o2 hs2 ho2 (by omega) (by omega) (fun j hj => ?_) hk
    by_cases hji : j = i
    · subst hji
      rw [List.getD_eq_getElem?_getD, List.getElem?_set_self (by omega)]
      rfl
    · rw [List.getD_eq_getElem?_getD, List.getElem?_set_ne (by omega), ← List.getD_eq_getElem?_getD]
      exact hr j (by omega)
theorem escaped_l1 {h0 : Base} {s : Nat} {b : Int} {a : Option Addr} {nr c : Nat} {K1 : Addr → Int → Heap → Prop} :
    ∀ (q i : Nat) (S : Scr) (h : Heap), RepX h0 h s S [] → Ok S → cellH h (shA S s) = some (.slice a nr c) → ((i + q : Nat) : Int) = S.h → (nr : Int) = S.h → (∀ h1, Rep h0 h1 s (allEL q i S) → K1 ⟨s, 0, none⟩ b h1) →
      vt_Screen_escaped_l1 K1 (q + 1) ⟨s, 0, none⟩ b a nr c (nr : Int) i h := by
  intro q
  induction q with
  | zero =>
    intro i S h hs o hc hi hn hk
    unfold vt_Screen_escaped_l1
    rw [if_neg (by omega)]
    exact hk h hs.rep
  | succ q ih =>
    intro i S h hs o hc hi hn hk
    unfold vt_Screen_escaped_l1
    unfold allEL at hk
    rw [if_pos (by omega)]
    have hsh := o.d.sh
    have hw1 := o.d.w1
    have hh1 := o.d.h1
    have hg := o.getAt (y := i) (by omega)
    obtain ⟨p, a', n', c', ob, pre, l, hp, hn2, hd, hsl, ho, hback⟩ := hs.rowc i (by omega) hc
    subst hp
    have hl := hsl.1
    have hte : ((i : Int)).toNat = i := by omega
    refine nz_i ⟨by omega, by omega, ⟨_, _, _, by rw [hte]; exact hd, ⟨n' + 1, ?_⟩⟩⟩
    refine escaped_l2 (by omega) n' 0 h _ ob hsl ho (by omega) (by omega) (fun j hj => by omega) fun h1 o1 ho1 hs1 => ?_
    rw [wrap64 (by omega) (by omega), show (i : Int) + 1 = ((i + 1 : Nat) : Int) by omega]
    obtain ⟨hs2, hc2⟩ := hback h1 o1 _ ho1 hs1
    rw [hl] at hs2
    have hf := setSh_w S (S.sh.set i (List.replicate (S.sh.getD i []).length eG))
    refine ih (i + 1) _ h1 hs2 (o.setAt (by rw [List.length_replicate]; exact hg)) (by rw [shA_alt hf.2.1]; exact hc2) (by rw [show (S.setSh _).h = S.h from hf.2.2]; omega) (by rw [show (S.setSh _).h = S.h from hf.2.2]; exact hn) hk
theorem setPl_st {h0 : Base} {h : Heap} {s : Nat} {S : Scr} {off : Nat} {vs : List Value} {K : Heap → Prop} (p : Pl) (hs : Rep h0 h s S) (hle : off + vs.length ≤ 41) (e : ∀ A, setL (scrC S A) off vs = scrC (S.setPl p) A) (hk : ∀ h1, Rep h0 h1 s (S.setPl p) → K h1) : stN ⟨s, off, none⟩ vs 0 h K := by
  obtain ⟨A, oM, oO, oP, oT, oG, oK, oL, ho, hp⟩ := hs
  refine st0 ho (Nat.ble_eq_true_of_le (by rw [scrC_size]; exact hle)) fun h1 ho1 => hk h1 ?_
  have ho1 := own_cs ho1 (e A)
  exact ⟨A, oM, oO, oP, oT, oG, oK, oL, by assumption, hp.1, hp.2, hp.3, hp.4, hp.5, hp.6, hp.7⟩
theorem Rep.bytes {h0 : Base} {h : Heap} {s : Nat} {S : Scr} {K : Option Addr → Nat → Nat → Prop} (hs : Rep h0 h s S) (hk : ∀ a n c, BAt h a n S.gathered → n ≤ c → K a n c) : ldL h ⟨s, 32, none⟩ K := by
  obtain ⟨A, oM, oO, oP, oT, oG, oK, oL, ho, hp⟩ := hs
  exact ldL0 ho rfl (hk _ _ _ (gath_at (o := []) hp (by simpa using ho)) (slo_cap hp.gath))
section
variable {h0 : Base} {h : Heap} {s : Nat} {S : Scr} {b : Int} {K : Heap → Prop}
theorem escaped_jr {Kn : Heap → Prop} (hs : Rep h0 h s S) (hg : 0 < S.gathered.length) (hk : K h) : vt_Screen_escaped_j0 Kn K ⟨s, 0, none⟩ b h := by
  unfold vt_Screen_escaped_j0
  simp only [add0, Nat.zero_add]
  refine hs.bytes fun a n c hb hc => ?_
  have := hb.1
  rw [if_pos (by omega)]
  exact hk
theorem escaped_j0 (hs : Rep h0 h s S) (o : Ok S) (hg : S.gathered.length = 0) (hk : ∀ h1, Rep h0 h1 s (escaped0 S b) → K h1) : vt_Screen_escaped_j0 K K ⟨s, 0, none⟩ b h := by
  have y0 := o.c.p.y0
  have y1 := o.c.p.y1
  have hh1 := o.d.h1
  unfold vt_Screen_escaped_j0
  unfold escaped0 at hk
  simp only [add0, Nat.zero_add]
  refine hs.bytes fun a n c hb hc => ?_
  have := hb.1
  rw [if_neg (by omega)]
  by_cases h1 : b = 55
  · rw [if_pos h1] at hk ⊢
    exact keepCursor_sp hs hk
  rw [if_neg h1] at hk ⊢
  by_cases h2 : b = 56
  · rw [if_pos h2] at hk ⊢
    exact backCursor_sp hs hk
  rw [if_neg h2] at hk ⊢
  by_cases h3 : b = 69
  · rw [if_pos h3] at hk ⊢
    exact setX_st hs fun h6 hs6 => feed_sp hs6 o.zeroX hk
  rw [if_neg h3] at hk ⊢
  by_cases h4 : b = 68
  · rw [if_pos h4] at hk ⊢
    exact feed_sp hs o hk
  rw [if_neg h4] at hk ⊢
  by_cases h5 : b = 77
  · rw [if_pos h5] at hk ⊢
    refine hs.ldi (v := S.pl.y) (fun A => rfl) ?_
    refine hs.ldi (v := S.top) (fun A => rfl) ?_
    by_cases h6 : S.pl.y = S.top
    · rw [if_pos h6] at hk ⊢
      refine hs.ldi (v := S.top) (fun A => rfl) ?_
      refine hs.ldi (v := S.bottom) (fun A => rfl) ?_
      exact down_sp hs o.d o.c.t0 o.c.tb o.c.bh fun h5 hs5 => unwait_st hs5 hk
    · rw [if_neg h6] at hk ⊢
      refine hs.ldi (v := S.pl.x) (fun A => rfl) ?_
      refine hs.ldi (v := S.pl.y) (fun A => rfl) ?_
      rw [wrap64 (x := S.pl.y - 1) (by omega) (by omega)]
      exact to_sp hs hk
  rw [if_neg h5] at hk ⊢
  by_cases h6 : b = 72
  · rw [if_pos h6] at hk ⊢
    exact hs.tabset (b := true) (K := K) o hk
  rw [if_neg h6] at hk ⊢
  by_cases h7 : b = 99
  · rw [if_pos h7] at hk ⊢
    exact reset_sp hs o.d.w0 o.d.w1 o.d.h0 o.d.h1 hk
  · rw [if_neg h7] at hk ⊢
    exact hk h hs
theorem allE_pl (S : Scr) : ∀ (q i : Nat) (S : Scr), (allEL q i S).h = S.h ∧ (allEL q i S).gathered = S.gathered
  | 0, _, S => ⟨rfl, rfl⟩
  | q + 1, i, S => by
    have h1 := allE_pl S q (i + 1) (S.setAt i (List.replicate (S.sh.getD i []).length eG))
    have h2 := (setSh_w S (S.sh.set i (List.replicate (S.sh.getD i []).length eG))).2.2
    have h3 : (S.setSh (S.sh.set i (List.replicate (S.sh.getD i []).length eG))).gathered = S.gathered := by unfold Scr.setSh; split <;> rfl
    exact ⟨h1.1.trans h2, h1.2.trans h3⟩
theorem escaped_sp (hs : Rep h0 h s S) (o : Ok S) (hk : ∀ h1, Rep h0 h1 s (escapedV S b) → K h1) : vt_Screen_escaped (some ⟨s, 0, none⟩) b K h := by
  have hh0 := o.d.h0
  have hh1 := o.d.h1
  unfold vt_Screen_escaped
  unfold escapedV at hk
  refine nz_i ?_
  simp only [add0, Nat.zero_add]
  refine hs.bytes fun a n c hb hc => ?_
  have hn := hb.1
  by_cases h1 : S.gathered.length = 1
  case neg =>
    rw [if_neg h1] at hk
    rw [if_neg (by omega)]
    by_cases h2 : 0 < S.gathered.length
    · rw [if_pos h2] at hk
      exact escaped_jr hs h2 (hk h hs)
    · rw [if_neg h2] at hk
      exact escaped_j0 hs o (by omega) hk
  rw [if_pos h1] at hk
  rw [if_pos (by omega)]
  unfold escaped1 at hk
  have hgl : 0 < S.gathered.length := by omega
  refine hs.bytes fun a n c hb hc => ?_
  have hn := hb.1
  obtain ⟨p, hp, hd⟩ := hb.2 0 (by omega)
  subst hp
  refine nz_i ⟨by omega, by omega, ⟨_, hd, ?_⟩⟩
  by_cases h2 : S.gathered.getD 0 0 = 40
  · rw [if_pos h2] at hk ⊢
    refine setPl_st { S.pl with l0 := decide (b = 48) } hs (by simp) (fun A => by kernel_rfl) fun h3 hs3 => ?_
    exact escaped_jr hs3 hgl (hk h3 hs3)
  rw [if_neg h2] at hk ⊢
  refine hs.bytes fun a n c hb hc => ?_
  have hn := hb.1
  obtain ⟨p, hp, hd⟩ := hb.2 0 (by omega)
  subst hp
  refine nz_i ⟨by omega, by omega, ⟨_, hd, ?_⟩⟩
  by_cases h3 : S.gathered.getD 0 0 = 41
  · rw [if_pos h3] at hk ⊢
    refine setPl_st { S.pl with l1 := decide (b = 48) } hs (by simp) (fun A => by kernel_rfl) fun h3 hs3 => ?_
    exact escaped_jr hs3 hgl (hk h3 hs3)
  rw [if_neg h3] at hk ⊢
  refine hs.bytes fun a n c hb hc => ?_
  have hn := hb.1
  obtain ⟨p, hp, hd⟩ := hb.2 0 (by omega)
  subst hp
  refine nz_i ⟨by omega, by omega, ⟨_, hd, ?_⟩⟩
  by_cases h4 : S.gathered.getD 0 0 = 35 ∧ b = 56
  case neg =>
    rw [if_neg h4] at hk
    rw [if_neg (by simpa using h4)]
    exact escaped_jr hs hgl (hk h hs)
  rw [if_pos h4] at hk
  rw [if_pos (by simpa using h4)]
  obtain ⟨ra, rn, rc, hcell⟩ := hs.shcell
  have hnr : (rn : Int) = S.h := by
    obtain ⟨A, a', n', c', ks, oh, bs, l, ho, hc', h1, h2, h3⟩ := hs.focus
    rw [hcell] at hc'
    obtain ⟨rfl, rfl, rfl⟩ : ra = a' ∧ rn = n' ∧ rc = c' := by simpa using hc'
    have := h1.1
    have := h2.1
    have := o.d.sh.1
    omega
  have hX : RepX h0 h s S [] := by
    obtain ⟨A, oM, oO, oP, oT, oG, oK, oL, ho, hp⟩ := hs
    exact ⟨A, oM, oO, oP, oT, oG, oK, oL, by simpa using ho, hp⟩
  have rest : ∀ q : Addr, shA S s = q → nz (some q) fun p115 =>
    ldL h p115 fun x116 x116n x116c =>
    ∃ k188, vt_Screen_escaped_l1
     (fun z173 z174 h175 =>
       ldI h175 .i64 (z173.add 1) fun x176 =>
       stN (z173.add 19) [.int .i64 0] 0 h175 fun h179 =>
       stN (z173.add 20) [.int .i64 (IntKind.wrap .i64 (x176 - 1))] 0 h179 fun h180 =>
       vt_Screen_to (some z173) 0 0 (fun  h181 =>
        vt_Screen_escaped_j0
         (fun  h182 =>
             K h182)
         (fun  h184 =>
                 K h184) z173 z174 h181) h180) k188 ⟨s, 0, none⟩ b x116 x116n x116c (x116n : Int) 0 h := by
    intro q hq
    rw [hq] at hcell
    refine nz_i ⟨_, _, _, hcell, ⟨S.h.toNat + 1, ?_⟩⟩
    refine escaped_l1 S.h.toNat 0 S h hX o (by rw [hq]; exact hcell) (by omega) hnr fun h5 hs5 => ?_
    have hS : (allE S).h = S.h ∧ (allE S).gathered = S.gathered := allE_pl S _ _ S
    have hs5 : Rep h0 h5 s (allE S) := hs5
    simp only [add0, Nat.zero_add]
    refine hs5.ldi (v := (allE S).h) (fun A => rfl) ?_
    rw [hS.1, wrap64 (x := S.h - 1) (by omega) (by omega), ← hS.1]
    obtain ⟨A, oM, oO, oP, oT, oG, oK, oL, ho, hp⟩ := hs5
    refine st0 ho rfl fun h6 ho6 => ?_
    refine st0 ho6 rfl fun h7 ho7 => ?_
    have ho7 := own_cs (c' := scrC (whole (allE S)) A) ho7 (by kernel_rfl)
    have hs7 : Rep h0 h7 s (whole (allE S)) := ⟨A, oM, oO, oP, oT, oG, oK, oL, ho7, hp.1, hp.2, hp.3, hp.4, hp.5, hp.6, hp.7⟩
    refine to_sp hs7 fun h8 hs8 => ?_
    exact escaped_jr hs8 (by show 0 < (allE S).gathered.length; rw [hS.2]; exact hgl) (hk h8 hs8)
  refine shown_sp hs (fun ha => ?_) (fun ha => ?_)
  · exact rest _ (by unfold shA; rw [if_pos ha])
  · exact rest _ (by unfold shA; rw [if_neg (by rw [ha]; decide)])
end
end Go.Proofs.YthjdnhhifjpidaaDoor.M
