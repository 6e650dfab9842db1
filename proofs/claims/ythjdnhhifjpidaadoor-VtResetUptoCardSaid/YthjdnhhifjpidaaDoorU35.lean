import Derived.Test.YthjdnhhifjpidaaDoorU34
set_option linter.unusedVariables false
set_option linter.unusedSimpArgs false
set_option maxRecDepth 100000
namespace Go.Proofs.YthjdnhhifjpidaaDoor.M
open Go Go.Hp

/-! ### What is shown, as a picture -/
theorem appG_o {h0 : Base} {h : Heap} {a : Option Addr} {n c : Nat} {ks js : List Gl} {o pre l : Blks} {a2 : Option Addr} {n2 : Nat} {K : Option Addr → Nat → Heap → Prop} (hs : SlO gf 5 43 a n c ks o) (ho : Own h0 h (pre ++ (o ++ l)))
    (hn2 : n2 = js.length) (hsrc : srcAt h a2 (js.flatMap gf)) (hb : n + n2 ≤ 2000000000000)
    (k : ∀ a' c' o' h', Own h0 h' (pre ++ (o' ++ l)) → SlO gf 5 43 a' (n + n2) c' (ks ++ js) o' → K a' c' h') : appS h 43 48 [.string (⟨#[]⟩ : ByteArray), .int .i64 0, .int .i64 0, .int .i64 0, .int .i64 0] a n c a2 n2 K := by
  subst hn2
  refine ⟨js.flatMap gf, flat_len gf gf_len js, ?_, hsrc, ?_⟩
  · simp only [List.all_flatMap]
    simp [oneV]
  · exact SlO.app (z := [.string (⟨#[]⟩ : ByteArray), .int .i64 0, .int .i64 0, .int .i64 0, .int .i64 0]) gf_len rfl hs ho (by omega) (by omega) k
theorem RepX.ownA {h0 : Base} {h : Heap} {s : Nat} {S : Scr} {X : Blks} (hs : RepX h0 h s S X) : ∃ A L, Own h0 h ((s, scrC S A, 69) :: (L ++ X)) ∧ ∀ X' h', Own h0 h' ((s, scrC S A, 69) :: (L ++ X')) → RepX h0 h' s S X' := by
  obtain ⟨A, oM, oO, oP, oT, oG, oK, oL, ho, hp⟩ := hs
  exact ⟨A, oM ++ (oO ++ (oP ++ (oT ++ (oG ++ (oK ++ oL))))), by simpa using ho, fun X' h' ho' => ⟨A, oM, oO, oP, oT, oG, oK, oL, by simpa using ho', hp⟩⟩
abbrev picC (w h : Int) (a : Option Addr) (n c : Nat) (x y : Int) (hid : Bool) (t : ByteArray) : Array Value := #[.int .i64 w, .int .i64 h, .slice a n c, .int .i64 x, .int .i64 y, .bool hid, .string t]
theorem pic_l0 {h0 : Base} {s b2 b30 : Nat} {S : Scr} {Z : Array Value} {w hh x y : Int} {hid : Bool} {t : ByteArray} {p1 : Option Addr} {nr cr : Nat} {K0 : Nat → Nat → Heap → Prop} (o : Ok S) (hnr : (nr : Int) = S.h) :
    ∀ (q i : Nat) (h : Heap) (a : Option Addr) (n c : Nat) (ks : List Gl) (oc : Blks), RepX h0 h s S ((b30, picC w hh a n c x y hid t, 35) :: (b2, Z, 35) :: oc) → cellH h (shA S s) = some (.slice p1 nr cr) → SlO gf 5 43 a n c ks oc → n ≤ i * 1000 → i + q = nr →
      (∀ h' a' n' c' oc', RepX h0 h' s S ((b30, picC w hh a' n' c' x y hid t, 35) :: (b2, Z, 35) :: oc') → SlO gf 5 43 a' n' c' (ks ++ (S.sh.drop i).flatten) oc' → K0 b2 b30 h') →
      vt_Screen_Picture_l0 K0 (q + 1) b2 b30 p1 nr cr (nr : Int) i h := by
  have hh1 := o.d.h1
  have hw1 := o.d.w1
  have hsh := o.d.sh
  intro q
  induction q with
  | zero =>
    intro i h a n c ks oc hs hc hsl hni hi hk
    unfold vt_Screen_Picture_l0
    rw [if_neg (by omega)]
    rw [List.drop_of_length_le (by omega)] at hk
    exact hk h a n c oc hs (by simpa using hsl)
  | succ q ih =>
    intro i h a n c ks oc hs hc hsl hni hi hk
    unfold vt_Screen_Picture_l0
    rw [if_pos (by omega)]
    have hg := o.getAt (y := i) (by omega)
    obtain ⟨p, a', n', c', ob, pre, l, hp, hn2, hd, hrow, ho, hback⟩ := hs.rowc i (by omega) hc
    subst hp
    have hl := hrow.1
    have hte : ((i : Int)).toNat = i := by omega
    refine nz_i ⟨by omega, by omega, ⟨_, _, _, by rw [hte]; exact hd, ?_⟩⟩
    have hb := hs.blkX (b := b30) (c := picC w hh a n c x y hid t) (t := 35) (by simp)
    refine ⟨_, _, _, hb.cell 2 rfl, ?_⟩
    have hsrc := hrow.srcAt ho
    obtain ⟨A, L, hoL, hbL⟩ := hs.ownA
    have hcA := hc
    have hoL1 : Own h0 h (((s, scrC S A, 69) :: (L ++ [(b30, picC w hh a n c x y hid t, 35), (b2, Z, 35)])) ++ (oc ++ [])) := by simpa using hoL
    refine appG_o hsl hoL1 hl hsrc (by omega) fun a2 c2 o2 h2 ho2 hs2 => ?_
    have ho2 : Own h0 h2 (((s, scrC S A, 69) :: L) ++ (b30, picC w hh a n c x y hid t, 35) :: ((b2, Z, 35) :: o2)) := by simpa using ho2
    refine stN_blk (ho2.mid (x := (b30, picC w hh a n c x y hid t, 35))).1 (show 2 + 0 + 1 ≤ 7 by decide) fun h3 hp3 => ?_
    have ho3 : Own h0 h3 (((s, scrC S A, 69) :: L) ++ (b30, picC w hh a2 (n + n') c2 x y hid t, 35) :: ((b2, Z, 35) :: o2)) := Own.putAt ho2 hp3
    have ho3 : Own h0 h3 ((s, scrC S A, 69) :: (L ++ ((b30, picC w hh a2 (n + n') c2 x y hid t, 35) :: (b2, Z, 35) :: o2))) := by simpa using ho3
    have hs3 := hbL _ _ ho3
    rw [wrap64 (by omega) (by omega), show (i : Int) + 1 = ((i + 1 : Nat) : Int) by omega]
    have hc3 : cellH h3 (shA S s) = some (.slice (some p) nr cr) := by
      unfold shA at hcA ⊢
      split
      · rename_i ha; rw [if_pos ha] at hcA; exact ho3.get0.cell 5 (cell_inv hoL.get0 hcA)
      · rename_i ha; rw [if_neg ha] at hcA; exact ho3.get0.cell 3 (cell_inv hoL.get0 hcA)
    have hd1 : S.sh.drop i = S.sh.getD i [] :: S.sh.drop (i + 1) := by
      rw [List.drop_eq_getElem_cons (by omega), List.getD_eq_getElem?_getD, List.getElem?_eq_getElem (by omega)]
      rfl
    refine ih (i + 1) h3 a2 (n + n') c2 (ks ++ S.sh.getD i []) o2 hs3 hc3 hs2 (by omega) (by omega) fun h' a' n' c' oc' g1 g2 => hk h' a' n' c' oc' g1 ?_
    rw [hd1, List.flatten_cons, ← List.append_assoc]
    exact g2
theorem Picture_sp {h0 : Base} {h : Heap} {s : Nat} {S : Scr} {K : Int → Int → Option Addr → Nat → Nat → Int → Int → Bool → ByteArray → Heap → Prop} (hs : Rep h0 h s S) (o : Ok S)
    (hk : ∀ a n c oc h1, RepX h0 h1 s S oc → SlO gf 5 43 a n c S.sh.flatten oc → K S.w S.h a n c S.pl.x S.pl.y S.hidden S.title h1) : vt_Screen_Picture (some ⟨s, 0, none⟩) K h := by
  have hsh := o.d.sh
  have hh0 := o.d.h0
  have hh1 := o.d.h1
  unfold vt_Screen_Picture
  refine hs.toX.newX fun b2 h1 hs1 => nz_i ?_
  simp only [add0, Nat.zero_add]
  refine hs1.ldi (v := S.w) (fun A => rfl) ?_
  refine hs1.ldi (v := S.h) (fun A => rfl) ?_
  refine hs1.ldi (v := S.pl.x) (fun A => rfl) ?_
  refine hs1.ldi (v := S.pl.y) (fun A => rfl) ?_
  refine hs1.ldb (v := S.hidden) (fun A => rfl) ?_
  refine hs1.lds (v := S.title) (fun A => rfl) ?_
  refine hs1.newX fun b30 h2 hs2 => ?_
  refine ⟨⟨hs2.cell (fun A => rfl), hs2.cell (fun A => rfl), hs2.cell (fun A => rfl), hs2.cell (fun A => rfl), hs2.cell (fun A => rfl), hs2.cell (fun A => rfl)⟩, ?_⟩
  refine RepX.stX (X := []) hs2 rfl fun h3 hs3 => ?_
  have hs3 : RepX h0 h3 s S ((b30, picC S.w S.h none 0 0 S.pl.x S.pl.y S.hidden S.title, 35) :: (b2, picC 0 0 none 0 0 0 0 false ⟨#[]⟩, 35) :: []) := hs3
  obtain ⟨ra, rn, rc, hcell⟩ := hs3.rep.shcell
  have hnr : (rn : Int) = S.h := by
    obtain ⟨A, a', n', c', ks, oh, bs, l, ho, hc', h1, h2, h3⟩ := hs3.focus
    rw [hcell] at hc'
    obtain ⟨rfl, rfl, rfl⟩ : ra = a' ∧ rn = n' ∧ rc = c' := by simpa using hc'
    have := h1.1
    have := h2.1
    omega
  have fin : ∀ h' a' n' c' oc', RepX h0 h' s S ((b30, picC S.w S.h a' n' c' S.pl.x S.pl.y S.hidden S.title, 35) :: (b2, picC 0 0 none 0 0 0 0 false ⟨#[]⟩, 35) :: oc') → SlO gf 5 43 a' n' c' ([] ++ (S.sh.drop 0).flatten) oc' →
     ldI h' .i64 ⟨b30, 0, none⟩ fun x74 =>
     ldI h' .i64 ⟨b30, 1, none⟩ fun x76 =>
     ldL h' ⟨b30, 2, none⟩ fun x78 x78n x78c =>
     ldI h' .i64 ⟨b30, 3, none⟩ fun x80 =>
     ldI h' .i64 ⟨b30, 4, none⟩ fun x82 =>
     ldB h' ⟨b30, 5, none⟩ fun x84 =>
     ldS h' ⟨b30, 6, none⟩ fun x86 =>
     stN ⟨b2, 0, none⟩ [.int .i64 x74, .int .i64 x76, .slice x78 x78n x78c, .int .i64 x80, .int .i64 x82, .bool x84, .string x86] 0 h' fun h95 =>
     ldI h95 .i64 ⟨b2, 0, none⟩ fun x96 =>
     ldI h95 .i64 ⟨b2, 1, none⟩ fun x98 =>
     ldL h95 ⟨b2, 2, none⟩ fun x100 x100n x100c =>
     ldI h95 .i64 ⟨b2, 3, none⟩ fun x102 =>
     ldI h95 .i64 ⟨b2, 4, none⟩ fun x104 =>
     ldB h95 ⟨b2, 5, none⟩ fun x106 =>
     ldS h95 ⟨b2, 6, none⟩ fun x108 =>
        K x96 x98 x100 x100n x100c x102 x104 x106 x108 h95 := by
    intro h' a' n' c' oc' g1 g2
    have hb := g1.blkX (b := b30) (c := picC S.w S.h a' n' c' S.pl.x S.pl.y S.hidden S.title) (t := 35) (by simp)
    refine ldI_b hb rfl ?_
    refine ldI_b hb rfl ?_
    refine ⟨_, _, _, hb.cell 2 rfl, ?_⟩
    refine ldI_b hb rfl ?_
    refine ldI_b hb rfl ?_
    refine ldB_b hb rfl ?_
    refine ldS_b hb rfl ?_
    refine RepX.stX (X := [_]) g1 rfl fun h4 hs4 => ?_
    have hs4 : RepX h0 h4 s S ((b30, picC S.w S.h a' n' c' S.pl.x S.pl.y S.hidden S.title, 35) :: (b2, picC S.w S.h a' n' c' S.pl.x S.pl.y S.hidden S.title, 35) :: oc') := hs4
    have hb := hs4.blkX (b := b2) (c := picC S.w S.h a' n' c' S.pl.x S.pl.y S.hidden S.title) (t := 35) (by simp)
    refine ldI_b hb rfl ?_
    refine ldI_b hb rfl ?_
    refine ⟨_, _, _, hb.cell 2 rfl, ?_⟩
    refine ldI_b hb rfl ?_
    refine ldI_b hb rfl ?_
    refine ldB_b hb rfl ?_
    refine ldS_b hb rfl ?_
    exact hk a' n' c' oc' h4 (hs4.subX (by simp)) g2
  have rest : ∀ q : Addr, shA S s = q → nz (some q) fun p42 =>
  ldL h3 p42 fun x43 x43n x43c =>
  ∃ k118, vt_Screen_Picture_l0
   (fun z71 z72 h73 =>
     ldI h73 .i64 ⟨z72, 0, none⟩ fun x74 =>
     ldI h73 .i64 ⟨z72, 1, none⟩ fun x76 =>
     ldL h73 ⟨z72, 2, none⟩ fun x78 x78n x78c =>
     ldI h73 .i64 ⟨z72, 3, none⟩ fun x80 =>
     ldI h73 .i64 ⟨z72, 4, none⟩ fun x82 =>
     ldB h73 ⟨z72, 5, none⟩ fun x84 =>
     ldS h73 ⟨z72, 6, none⟩ fun x86 =>
     stN ⟨z71, 0, none⟩ [.int .i64 x74, .int .i64 x76, .slice x78 x78n x78c, .int .i64 x80, .int .i64 x82, .bool x84, .string x86] 0 h73 fun h95 =>
     ldI h95 .i64 ⟨z71, 0, none⟩ fun x96 =>
     ldI h95 .i64 ⟨z71, 1, none⟩ fun x98 =>
     ldL h95 ⟨z71, 2, none⟩ fun x100 x100n x100c =>
     ldI h95 .i64 ⟨z71, 3, none⟩ fun x102 =>
     ldI h95 .i64 ⟨z71, 4, none⟩ fun x104 =>
     ldB h95 ⟨z71, 5, none⟩ fun x106 =>
     ldS h95 ⟨z71, 6, none⟩ fun x108 =>
        K x96 x98 x100 x100n x100c x102 x104 x106 x108 h95) k118 b2 b30 x43 x43n x43c (x43n : Int) 0 h3 := by
    intro q hq
    refine nz_i ⟨_, _, _, (by rw [← hq]; exact hcell), ⟨rn + 1, ?_⟩⟩
    exact pic_l0 o hnr rn 0 h3 none 0 0 [] [] hs3 hcell SlO.nil (by omega) (by omega) fun h' a' n' c' oc' g1 g2 => fin h' a' n' c' oc' g1 g2
  refine shown_sp hs3.rep (fun ha => ?_) (fun ha => ?_)
  · exact rest _ (by unfold shA; rw [if_pos ha])
  · exact rest _ (by unfold shA; rw [if_neg (by rw [ha]; decide)])
/-- What a new screen shows. -/
def blankL (w h : Int) : List Gl := (sheetV w h 0 0 0).flatten
theorem Blank_sp {h0 : Base} {h : Heap} {X : Blks} {w hh : Int} {K : Int → Int → Option Addr → Nat → Nat → Int → Int → Bool → ByteArray → Int → Heap → Prop} (ho : Own h0 h X) (w0 : 1 ≤ w) (w1 : w ≤ 1000) (hh0 : 1 ≤ hh) (hh1 : hh ≤ 1000)
    (hk : ∀ a n c oc h1, Own h0 h1 (oc ++ X) → SlO gf 5 43 a n c (blankL w hh) oc → K w hh a n c 0 0 false ⟨#[]⟩ 0 h1) : vt_Blank w hh K h := by
  unfold vt_Blank
  refine newB_o ho fun b3 h1 ho1 => ?_
  refine New_sp ho1 (fun e h2 he _ => ?_) fun _ _ _ _ _ _ b h2 hs2 => ?_
  · exfalso
    unfold badV at he
    rw [if_pos ⟨w0, w1, hh0, hh1⟩, if_pos (by omega)] at he
    cases he
  rw [if_pos rfl]
  have o := ok_new w0 w1 hh0 hh1 (most := 0) (by omega) (by omega)
  refine Picture_sp hs2.fix o fun a n c oc h3 hs3 hsl => ?_
  have ho3 : Own h0 h3 (oc ++ ((b3, picC 0 0 none 0 0 0 0 false ⟨#[]⟩, 35) :: X)) := hs3.unfixX.rest
  have ho3 := ho3.perm (l' := (b3, picC 0 0 none 0 0 0 0 false ⟨#[]⟩, 35) :: (oc ++ X)) (by (classical exact List.perm_iff_count.2 (fun x => by simp only [List.count_append, List.count_cons, List.count_nil]; omega)))
  refine st0 ho3 rfl fun h4 ho4 => ?_
  have ho4 : Own h0 h4 ((b3, picC w hh a n c 0 0 false ⟨#[]⟩, 35) :: (oc ++ X)) := ho4
  refine ldI0 ho4 rfl ?_
  refine ldI0 ho4 rfl ?_
  refine ldL0 ho4 rfl ?_
  refine ldI0 ho4 rfl ?_
  refine ldI0 ho4 rfl ?_
  refine ldB0 ho4 rfl ?_
  refine ldS0 ho4 rfl ?_
  exact hk a n c oc h4 ho4.tail hsl
end Go.Proofs.YthjdnhhifjpidaaDoor.M
