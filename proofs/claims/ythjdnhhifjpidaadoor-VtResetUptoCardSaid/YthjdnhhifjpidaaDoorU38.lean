import Derived.Test.YthjdnhhifjpidaaDoorU37
set_option linter.unusedVariables false
set_option linter.unusedSimpArgs false
set_option maxRecDepth 100000
namespace Go.Proofs.YthjdnhhifjpidaaDoor.M
open Go Go.Hp

/-! ### Both screens are made -/
theorem made_sp {h0 : Base} {h : Heap} {X : Blks} {w hh m : Int} {K : Option Addr → Option Addr → Bool → Heap → Prop} (ht : Tabs h0.h) (ho : Own h0 h X) (hb : ∀ h1, Own h0 h1 X → K none none true h1)
    (hk : 1 ≤ w → w ≤ 1000 → 1 ≤ hh → hh ≤ 1000 → 0 ≤ m → m ≤ 2000 → ∀ b b2 h1, RepX h0 h1 b (newV w hh m) X → K (some ⟨b, 0, none⟩) (some ⟨b2, 0, none⟩) true h1) : law19_made w hh m K h := by
  unfold law19_made
  refine newB_o ho fun b4 h1 ho1 => ?_
  refine ldI0 ho1 rfl (ldI0 ho1 rfl (ldI0 ho1 rfl ?_))
  refine New_sp ho1 (fun e h2 he ho2 => ?_) fun w0 w1 hh0 hh1 m0 m1 b h2 hs2 => ?_
  · refine ldI0 ho2 rfl (ldI0 ho2 rfl (ldI0 ho2 rfl ?_))
    refine RNew_sp (X := (b4, #[.int .i64 w, .int .i64 hh, .int .i64 m], 26) :: X) ho2 (fun e' he' => ?_) (fun hn => ?_)
    · have : e = e' := Option.some.inj (he.symm.trans he')
      subst this
      refine works_sp (ht.ext ho2.ext) fun h3 he3 => ?_
      have hz : ((true && (decide (e = e))) && ((none : Option Addr).isNone == (none : Option Addr).isNone)) = true := by simp
      rw [hz]
      exact hb h3 (ho2.gap he3).tail
    · rw [hn] at he
      exact nomatch he
  · have hb4 := hs2.blkX (b := b4) (c := #[.int .i64 w, .int .i64 hh, .int .i64 m]) (t := 26) (by simp)
    refine ldI_b hb4 rfl (ldI_b hb4 rfl (ldI_b hb4 rfl ?_))
    obtain ⟨L, ho2, hback⟩ := hs2.own
    have hnb : badV w hh m = none := by
      unfold badV
      rw [if_pos ⟨w0, w1, hh0, hh1⟩, if_pos ⟨m0, m1⟩]
    refine RNew_sp ho2 (fun e' he' => ?_) (fun _ b2 h3 ho3 => ?_)
    · rw [hnb] at he'
      exact nomatch he'
    refine works_sp (ht.ext ho3.ext) fun h4 he4 => ?_
    have hs4 := hback _ _ (ho3.gap he4)
    have hz : ((true && (decide ((0 : Int) = 0))) && ((some (⟨b, 0, none⟩ : Addr)).isNone == (some (⟨b2, 0, none⟩ : Addr)).isNone)) = true := by simp
    rw [hz]
    exact hk w0 w1 hh0 hh1 m0 m1 b b2 h4 (hs4.subX (List.sublist_cons_self _ _))

/-! ### Behind ESC c, and behind a letter -/
theorem escc (S : Scr) : ∃ T, Fx S T ∧ strV S ⟨#[27, 99]⟩ = resetV T := by
  refine ⟨setState (escV S) 0, (Fx.self S).esc.setState 0, ?_⟩
  show byteV (byteV S 27) 99 = _
  have e1 : byteV S 27 = escV S := by
    unfold byteV
    rw [if_neg (by decide), if_pos rfl]
  rw [e1]
  have hst : (escV S).state = 1 := rfl
  have hg : (escV S).gathered = [] := rfl
  have hov : (escV S).over = false := rfl
  unfold byteV
  rw [if_neg (by decide), if_neg (by decide), if_neg (by rw [hst]; decide), if_pos hst]
  unfold escapeV
  rw [if_neg (by rw [hg]; decide), if_neg (by rw [hg]; decide), if_neg (by rw [hg]; decide), if_neg (by decide), if_neg (by decide), if_pos (by decide), if_pos hov]
  unfold escapedV
  have hg2 : (setState (escV S) 0).gathered = [] := rfl
  rw [if_neg (by rw [hg2]; decide), if_neg (by rw [hg2]; decide)]
  unfold escaped0
  rw [if_neg (by decide), if_neg (by decide), if_neg (by decide), if_neg (by decide), if_neg (by decide), if_neg (by decide), if_pos rfl]
theorem reset_sh (S : Scr) : (resetV S).sh = sheetV S.w S.h 0 0 0 := rfl
theorem x_put (S : Scr) : strV (resetV S) ⟨#[120]⟩ = putV (setLast (resetV S) 120) 120 1 := by kernel_rfl
theorem ahead_f (S : Scr) (n : Int) : (ahead S n).app = S.app ∧ (ahead S n).bracket = S.bracket ∧ (ahead S n).alt = S.alt ∧ (ahead S n).bells = S.bells ∧ (ahead S n).sh = S.sh := by
  unfold ahead
  split <;> exact ⟨rfl, rfl, rfl, rfl, rfl⟩
def xG : Gl := (⟨#[120]⟩, 1, 0, 0, 0)
theorem x_fed {S : Scr} (w0 : 1 ≤ S.w) (h0 : 1 ≤ S.h) : (strV (resetV S) ⟨#[120]⟩).app = false ∧ (strV (resetV S) ⟨#[120]⟩).bracket = false ∧ (strV (resetV S) ⟨#[120]⟩).alt = false ∧ (strV (resetV S) ⟨#[120]⟩).bells = S.bells ∧ (strV (resetV S) ⟨#[120]⟩).sh.flatten.getD 0 gl0 = xG := by
  rw [x_put]
  unfold putV
  obtain ⟨f1, f2, f3, f4, f5⟩ := ahead_f ((setLast (resetV S) 120).setRow (putR (setLast (resetV S) 120).rowAt (setLast (resetV S) 120).pl.x 1 (Utf8.encode 120) (setLast (resetV S) 120).pl.fore (setLast (resetV S) 120).pl.back (setLast (resetV S) 120).pl.marks)) 1
  refine ⟨f1.trans rfl, f2.trans rfl, f3.trans rfl, f4.trans rfl, ?_⟩
  rw [f5]
  obtain ⟨k, hk⟩ : ∃ k, S.w.toNat = k + 1 := ⟨S.w.toNat - 1, by omega⟩
  obtain ⟨j, hj⟩ : ∃ j, S.h.toNat = j + 1 := ⟨S.h.toNat - 1, by omega⟩
  have hsh : sheetV S.w S.h 0 0 0 = List.replicate k.succ (blankG 0 0 0) :: List.replicate j (List.replicate k.succ (blankG 0 0 0)) := by
    unfold sheetV
    rw [hk, hj]
    rfl
  have hrow : (setLast (resetV S) 120).rowAt = List.replicate k.succ (blankG 0 0 0) := by
    show (sheetV S.w S.h 0 0 0).getD 0 [] = _
    rw [hsh]
    rfl
  rw [hrow]
  show (((sheetV S.w S.h 0 0 0).set 0 (putR (List.replicate k.succ (blankG 0 0 0)) 0 1 (Utf8.encode 120) 0 0 0)).flatten).getD 0 gl0 = xG
  rw [hsh]
  have hc : ∀ x : Int, x = 0 ∨ x = 1 → cutV (List.replicate k.succ (blankG 0 0 0)) x = List.replicate k.succ (blankG 0 0 0) := by
    intro x hx
    unfold cutV
    rw [if_neg]
    rintro ⟨a1, a2, a3⟩
    have hx1 : x = 1 := by omega
    subst hx1
    rw [List.getD_eq_getElem?_getD, List.getElem?_replicate] at a3
    rw [if_pos (by rw [List.length_replicate] at a2; omega)] at a3
    exact absurd a3 (by decide)
  unfold putR
  rw [if_neg (by decide), hc 0 (.inl rfl), hc (0 + 1) (.inr rfl)]
  rw [List.set_cons_zero, List.flatten_cons]
  show ((xG :: List.replicate k (blankG 0 0 0)) ++ _).getD 0 gl0 = xG
  rfl

/-! ### The law -/
theorem law_sp {w hh m : Int} {data : ByteArray} {h : Heap} {K : Bool → Heap → Prop} (ht : Tabs h) (hz : data.size < 9223372036854775807) (hk : ∀ h1, Ext h h1 → K true h1) : law19_VtReset w hh m data K h := by
  unfold law19_VtReset
  refine newB_o (Own.init h) fun b5 h1 ho1 => ?_
  refine ldI0 ho1 rfl (ldI0 ho1 rfl (ldI0 ho1 rfl ?_))
  refine made_sp ht ho1 (fun h2 ho2 => ?_) fun w0 w1 hh0 hh1 m0 m1 b b2 h2 hs2 => ?_
  · rw [if_pos (by simp)]
    exact hk h2 ho2.ext
  rw [if_neg (by simp)]
  have o := ok_new w0 w1 hh0 hh1 m0 m1
  have u := u8_new w hh m
  refine Feed_sp ht hs2.fix o u hz fun h3 hs3 => ?_
  have o1 := o.str data
  have u1 := u.str data
  have f1 : F3 (newV w hh m) (strV (newV w hh m) data) := f3_bytesL _ _
  generalize strV (newV w hh m) data = S1 at *
  have e1 : S1.w = w := f1.w
  have e2 : S1.h = hh := f1.h
  unfold vt_Screen_Bells
  refine nz_i ?_
  simp only [add0, Nat.zero_add]
  refine hs3.ldi (v := S1.bells) (fun A => rfl) ?_
  refine Feed_sp ht hs3 o1 u1 (by decide) fun h4 hs4 => ?_
  have o2 := o1.str ⟨#[27, 99]⟩
  have u2 := u1.str ⟨#[27, 99]⟩
  obtain ⟨T, fT, eT⟩ := escc S1
  rw [eT] at hs4 o2 u2
  have hx4 := hs4.unfix
  have hb5 := hx4.blkX (b := b5) (c := #[.int .i64 w, .int .i64 hh, .int .i64 m]) (t := 26) (by simp)
  refine ldI_b hb5 rfl (ldI_b hb5 rfl ?_)
  obtain ⟨L, ho4, hback⟩ := hx4.own
  refine Blank_sp ho4 w0 w1 hh0 hh1 fun a1 n1 c1 oc1 h5 ho5 s1 => ?_
  have hx5 := hback (oc1 ++ [(b5, #[.int .i64 w, .int .i64 hh, .int .i64 m], 26)]) h5 (ho5.perm (by (classical exact List.perm_iff_count.2 (fun x => by simp only [List.count_append, List.count_cons, List.count_nil]; omega))))
  clear ho5 hback ho4 hx4
  refine hx5.newX fun b45 h6 hx6 => ?_
  refine RepX.stX (X := []) hx6 rfl fun h7 hx7 => ?_
  have hx7 : RepX (⟨h, []⟩ : Base) h7 b (resetV T) ((b45, picC w hh a1 n1 c1 0 0 false ⟨#[]⟩, 35) :: (oc1 ++ [(b5, #[.int .i64 w, .int .i64 hh, .int .i64 m], 26)])) := hx7
  refine Picture_sp hx7.fix o2 fun a2 n2 c2 oc2 h8 hs8 s2 => ?_
  have hx8 := hs8.unfixX
  have eb : (resetV T).sh.flatten = blankL w hh := by
    rw [reset_sh, fT.w, fT.h, e1, e2]
    rfl
  rw [eb] at s2
  refine hx8.newX fun b57 h9 hx9 => ?_
  refine RepX.stX (X := []) hx9 rfl fun h10 hx10 => ?_
  have hx10 : RepX (⟨h, []⟩ : Base) h10 b (resetV T) ((b57, picC (resetV T).w (resetV T).h a2 n2 c2 0 0 false ⟨#[]⟩, 35) :: (oc2 ++ ((b45, picC w hh a1 n1 c1 0 0 false ⟨#[]⟩, 35) :: (oc1 ++ [(b5, #[.int .i64 w, .int .i64 hh, .int .i64 m], 26)])))) := hx10
  have et1 : (resetV T).w = w := fT.w.trans e1
  have et2 : (resetV T).h = hh := fT.h.trans e2
  rw [et1, et2] at hx10
  refine Feed_sp ht hx10.fix o2 u2 (by decide) fun h11 hs11 => ?_
  have o3 := o2.str ⟨#[120]⟩
  have hxf := x_fed (S := T) (by show (1 : Int) ≤ (resetV T).w; rw [et1]; exact w0) (by show (1 : Int) ≤ (resetV T).h; rw [et2]; exact hh0)
  have hlen : 0 < (strV (resetV T) ⟨#[120]⟩).sh.flatten.length := by
    have hd := o3.d.sh
    have hw := o3.d.w0
    have hh' := o3.d.h0
    cases hsh : (strV (resetV T) ⟨#[120]⟩).sh with
    | nil => rw [hsh] at hd; have := hd.1; simp at this; omega
    | cons r l =>
      rw [hsh] at hd
      have := hd.2 r (by simp)
      rw [List.flatten_cons, List.length_append]
      omega
  generalize strV (resetV T) ⟨#[120]⟩ = S3 at *
  refine Picture_sp hs11 o3 fun a3 n3 c3 oc3 h12 hs12 s3 => ?_
  have hx12 := hs12.unfixX
  have hn3 := s3.1
  obtain ⟨L3, ho12, hback3⟩ := hx12.own
  obtain ⟨p, hp, d⟩ := s3.get gf_len (pre := L3) ho12 0 gl0 (by omega)
  rw [hxf.2.2.2.2] at d
  subst hp
  refine nz_i ⟨by omega, by omega, ?_⟩
  refine ldS_c (d 0 _ rfl) (ldI_c (d 1 _ rfl) (ldI_c (d 2 _ rfl) (ldI_c (d 3 _ rfl) (ldI_c (d 4 _ rfl) ?_))))
  refine hx12.newX fun b88 h13 hx13 => ?_
  refine RepX.stX (X := []) hx13 rfl fun h14 hx14 => ?_
  have hx14 : RepX (⟨h, []⟩ : Base) h14 b S3 ((b88, #[.string ⟨#[120]⟩, .int .i64 1, .int .i64 0, .int .i64 0, .int .i64 0], 43) :: (oc3 ++ ((b57, picC w hh a2 n2 c2 0 0 false ⟨#[]⟩, 35) :: (oc2 ++ ((b45, picC w hh a1 n1 c1 0 0 false ⟨#[]⟩, 35) :: (oc1 ++ [(b5, #[.int .i64 w, .int .i64 hh, .int .i64 m], 26)])))))) := hx14
  have hb45 := hx14.blkX (b := b45) (c := picC w hh a1 n1 c1 0 0 false ⟨#[]⟩) (t := 35) (by simp)
  have hb57 := hx14.blkX (b := b57) (c := picC w hh a2 n2 c2 0 0 false ⟨#[]⟩) (t := 35) (by simp)
  refine ldI_b hb45 rfl (ldI_b hb45 rfl (ldL_b hb45 rfl (ldI_b hb45 rfl (ldI_b hb45 rfl (ldB_b hb45 rfl (ldS_b hb45 rfl ?_))))))
  refine ldI_b hb57 rfl (ldI_b hb57 rfl (ldL_b hb57 rfl (ldI_b hb57 rfl (ldI_b hb57 rfl (ldB_b hb57 rfl (ldS_b hb57 rfl ?_))))))
  obtain ⟨L4, ho14, hback4⟩ := hx14.own
  have hl1 : (blankL w hh).length ≤ 2000000 := by
    unfold blankL sheetV
    rw [List.flatten_replicate_replicate, List.length_replicate]
    exact Nat.le_trans (Nat.mul_le_mul (show hh.toNat ≤ 1000 by omega) (show w.toNat ≤ 1000 by omega)) (by decide)
  refine same_sp (X := L4 ++ ((b88, #[.string ⟨#[120]⟩, .int .i64 1, .int .i64 0, .int .i64 0, .int .i64 0], 43) :: (oc3 ++ ((b57, picC w hh a2 n2 c2 0 0 false ⟨#[]⟩, 35) :: ((b45, picC w hh a1 n1 c1 0 0 false ⟨#[]⟩, 35) :: [(b5, #[.int .i64 w, .int .i64 hh, .int .i64 m], 26)]))))) (ho14.perm (by (classical exact List.perm_iff_count.2 (fun x => by simp only [List.count_append, List.count_cons, List.count_nil]; omega)))) s1 s2 hl1 fun h15 ho15 => ?_
  have hx15 := hback4 _ h15 (ho15.perm (l' := L4 ++ ((b88, #[.string ⟨#[120]⟩, .int .i64 1, .int .i64 0, .int .i64 0, .int .i64 0], 43) :: (oc3 ++ ((b57, picC w hh a2 n2 c2 0 0 false ⟨#[]⟩, 35) :: (oc2 ++ ((b45, picC w hh a1 n1 c1 0 0 false ⟨#[]⟩, 35) :: (oc1 ++ [(b5, #[.int .i64 w, .int .i64 hh, .int .i64 m], 26)]))))))) (by (classical exact List.perm_iff_count.2 (fun x => by simp only [List.count_append, List.count_cons, List.count_nil]; omega))))
  rw [if_pos rfl]
  unfold vt_Screen_App vt_Screen_Bracket vt_Screen_Alternate
  refine nz_i ?_
  simp only [add0, Nat.zero_add]
  refine hx15.ldb (v := S3.app) (fun A => rfl) ?_
  rw [hxf.1, if_pos (by decide)]
  refine nz_i ?_
  simp only [add0, Nat.zero_add]
  refine hx15.ldb (v := S3.bracket) (fun A => rfl) ?_
  rw [hxf.2.1, if_pos (by decide)]
  refine nz_i ?_
  simp only [add0, Nat.zero_add]
  refine hx15.ldb (v := S3.alt) (fun A => rfl) ?_
  rw [hxf.2.2.1, if_pos (by decide)]
  refine nz_i ?_
  simp only [add0, Nat.zero_add]
  refine hx15.ldi (v := S3.bells) (fun A => rfl) ?_
  rw [hxf.2.2.2.1, fT.bells, if_pos rfl]
  have hb88 := hx15.blkX (b := b88) (c := #[.string ⟨#[120]⟩, .int .i64 1, .int .i64 0, .int .i64 0, .int .i64 0]) (t := 43) (by simp)
  refine ldS_b hb88 rfl (ldI_b hb88 rfl (ldI_b hb88 rfl (ldI_b hb88 rfl (ldI_b hb88 rfl ?_))))
  exact hk h15 hx15.rep.ext
end Go.Proofs.YthjdnhhifjpidaaDoor.M
