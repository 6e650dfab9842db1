import Derived.Test.YtkbpnmgkdodcmaaDoorB7
set_option linter.unusedVariables false
set_option linter.unusedSimpArgs false
set_option maxRecDepth 100000
namespace Go.Proofs.YtkbpnmgkdodcmaaDoor.M
open Go Go.Hp

theorem nil_app (x : ByteArray) : (⟨#[]⟩ : ByteArray) ++ x = x := by
  apply ByteArray.ext
  rw [ByteArray.data_append]
  simp
theorem ext_join (s : ByteArray) (a : Nat) (h : a ≤ s.size) : s.extract 0 a ++ s.extract a s.size = s := by
  apply ByteArray.ext
  rw [ByteArray.data_append, ByteArray.data_extract, ByteArray.data_extract]
  have hs : s.data.size = s.size := rfl
  apply Array.ext_getElem?
  intro i
  simp only [Array.getElem?_extract, Array.getElem?_append, Array.size_extract]
  grind
theorem pieces_j1 {Kr : Bool → Heap → Prop} {h0 h : Heap} {text r : ByteArray} {d1 d2 : Nat} {t1 t2} {l} {a a' : Option Addr} {n c n' c' : Nat} {ks : List (Int × Int)} (hT : TabH h0)
    (ho : Own h0 h ((d1, #[.string r], t1) :: (d2, #[.string r], t2) :: l)) (g1 : SlG h a n ks) (g2 : SlG h a' n' ks) (hv : ∀ k ∈ ks, keys_Valid k.1 k.2 = true) (hb : n < 9000000000000000000)
    (hr1 : r.size ≤ text.size) (hr2 : text.extract (text.size - r.size) text.size = r) (hts : text.size < 9000000000000000000) (hK : ∀ h1, Ext h0 h1 → Kr true h1) :
    law21_KeysPieces_j1 Kr text (some ⟨d1, 0, none⟩) (some ⟨d2, 0, none⟩) a n c a' n' c' h := by
  unfold law21_KeysPieces_j1
  refine held_sp ho ?_
  refine same_sp g1 g2 hb ?_
  simp only [decide_true, Bool.not_true, Bool.false_eq_true, if_false]
  refine held_sp (ho.perm (List.Perm.swap ..)) ?_
  have e1 : IntKind.wrap .i64 ((text.size : Int) - (r.size : Int)) = (text.size : Int) - (r.size : Int) := wrap64 (by omega) (by omega)
  rw [e1]
  have e2 : ((text.size : Int) - (r.size : Int)).toNat = text.size - r.size := by omega
  refine ⟨fun _ => by omega, fun _ => by omega, ?_⟩
  rw [e2, hr2]
  have e3 : decide ((text.size : Int) < (r.size : Int)) = false := decide_eq_false (by omega)
  simp only [beq_self_eq_true, Bool.not_true, Bool.false_or, Bool.or_false, e3, Bool.false_eq_true, if_false]
  refine ⟨n + 1, valid_loop (h0 := h) hv hb (fun h1 he => ?_) (n + 1) 0 h (Ext.refl h) g1 (by omega) (by omega)⟩
  exact sure_sp ((ho.ext.trans he).cellsAt hT) fun h2 he2 => hK _ ((ho.ext.trans he).trans he2)
theorem feed_len : ∀ (n : Nat) (s : ByteArray), s.size ≤ n → (s.size : Int) < 9223372036854775807 → (feedV s).1.length ≤ s.size := by
  intro n
  induction n with
  | zero => intro s hs hb; rw [feedV_empty s (by omega)]; simp
  | succ n ih =>
    intro s hs hb
    by_cases h0 : s.size = 0
    · rw [feedV_empty s h0]; simp
    rw [feedV_step s (by omega) hb]
    by_cases hc : (nextV s).2.2.2 = 0
    · rw [if_pos hc]; simp
    · rw [if_neg hc]
      have hn := nextV_n s (by omega) hb
      have hsz2 : (s.extract (nextV s).2.2.2.toNat s.size).size = s.size - (nextV s).2.2.2.toNat := by rw [ByteArray.size_extract]; omega
      have := ih (s.extract (nextV s).2.2.2.toNat s.size) (by omega) (by omega)
      simp only [List.length_append]
      split
      · simp only [List.length_singleton]; omega
      · simp only [List.length_nil]; omega

theorem pieces_rest {Kr : Bool → Heap → Prop} {h0 h : Heap} {text r1 r : ByteArray} {at_ : Int} {d1 d2 b : Nat} {a a1 : Option Addr} {n c n1 c1 : Nat} {ks k1 : List (Int × Int)} {o o1} (hT : TabH h0) (hts : text.size ≤ 1000000000) (p0 : 0 ≤ at_) (p1 : at_ ≤ text.size)
    (hk : ks = k1 ++ (feedV (r1 ++ text.extract at_.toNat text.size)).1) (hr : r = (feedV (r1 ++ text.extract at_.toNat text.size)).2) (hz : (r1 ++ text.extract at_.toNat text.size).size ≤ text.size) (hn1 : n1 ≤ text.size) (hn : n ≤ text.size)
    (hv : ∀ k ∈ ks, keys_Valid k.1 k.2 = true) (hr1 : r.size ≤ text.size) (hr2 : text.extract (text.size - r.size) text.size = r)
    (ho : Own h0 h ((d2, #[.string r1], 53) :: (o1 ++ ((b, #[], 36) :: (d1, #[.string r], 53) :: o)))) (hs : SlO kf 2 36 a n c ks o) (hs1 : SlO kf 2 36 a1 n1 c1 k1 o1) (hK : ∀ h1, Ext h0 h1 → Kr true h1) :
    appS h 36 16 [.int .i64 0, .int .i64 0] (some ⟨b, 0, none⟩) 0 0 a1 n1 fun s32 s32c h31 =>
      keys_Decoder_Feed (some ⟨d2, 0, none⟩) (text.extract at_.toNat text.size) (fun x35 x35n x35c h34 =>
        appS h34 36 16 [.int .i64 0, .int .i64 0] s32 (0 + n1) s32c x35 x35n fun s37 s37c h36 =>
        law21_KeysPieces_j1 (fun z95 h96 => Kr z95 h96) text (some ⟨d1, 0, none⟩) (some ⟨d2, 0, none⟩) a n c s37 ((0 + n1) + x35n) s37c h36) h31 := by
  have hb : SlO kf 2 36 (some ⟨b, 0, none⟩) 0 0 [] [(b, #[], 36)] := lit_slo (f := kf) (sz := 2) (t := 36) (b := b) [] rfl
  refine appS_o (h0 := h0) (pre := (d2, #[.string r1], 53) :: o1) (l := (d1, #[.string r], 53) :: o) (js := k1) hb (ho.perm (by (classical exact List.perm_iff_count.2 (fun x => by simp only [List.count_append, List.count_cons, List.count_nil]; omega)))) hs1.1 (hs1.srcAt (pre := [(d2, #[.string r1], 53)]) (l := (b, #[], 36) :: (d1, #[.string r], 53) :: o) (ho.perm (by (classical exact List.perm_iff_count.2 (fun x => by simp only [List.count_append, List.count_cons, List.count_nil]; omega))))) (by omega) fun a5 c5 o5 h5 ho5 hs5 => ?_
  have hsz2 : r1.size + (text.extract at_.toNat text.size).size ≤ text.size := by rw [ByteArray.size_append] at hz; exact hz
  refine feed_sp hT (s := r1) (t := 53) (l := o1 ++ (o5 ++ ((d1, #[.string r], 53) :: o))) (ho5.perm (by (classical exact List.perm_iff_count.2 (fun x => by simp only [List.count_append, List.count_cons, List.count_nil]; omega)))) (by omega) fun a6 n6 c6 o6 h6 ho6 hs6 => ?_
  have n6 := hs6.1
  have := feed_len _ (r1 ++ text.extract at_.toNat text.size) (Nat.le_refl _) (by omega)
  refine appS_o (h0 := h0) (pre := (d2, #[.string r], 53) :: (o6 ++ o1)) (l := (d1, #[.string r], 53) :: o) (js := (feedV (r1 ++ text.extract at_.toNat text.size)).1) hs5 ?_ hs6.1 ?_ (by omega) fun a7 c7 o7 h7 ho7 hs7 => ?_
  · rw [hr]; rw [hr] at ho6; exact ho6.perm (by (classical exact List.perm_iff_count.2 (fun x => by simp only [List.count_append, List.count_cons, List.count_nil]; omega)))
  · exact hs6.srcAt (pre := [_]) ho6
  refine pieces_j1 (r := r) (ks := ks) (t1 := 53) (t2 := 53) (l := o6 ++ (o1 ++ (o7 ++ o))) hT (ho7.perm (by (classical exact List.perm_iff_count.2 (fun x => by simp only [List.count_append, List.count_cons, List.count_nil]; omega)))) ?_ ?_ hv (by omega) hr1 hr2 (by omega) hK
  · exact SlO.slg (pre := (d2, #[.string r], 53) :: (o6 ++ (o1 ++ (o7 ++ [(d1, #[.string r], 53)])))) (l := []) hs (ho7.perm (by (classical exact List.perm_iff_count.2 (fun x => by simp only [List.count_append, List.count_cons, List.count_nil]; omega))))
  · have := SlO.slg (pre := (d2, #[.string r], 53) :: (o6 ++ o1)) (l := (d1, #[.string r], 53) :: o) hs7 ho7
    rw [hk]
    simpa using this
theorem pieces_j0 {Kr : Bool → Heap → Prop} {h : Heap} {text : ByteArray} {at_ : Int} (hT : TabH h) (hts : text.size ≤ 1000000000) (p0 : 0 ≤ at_) (p1 : at_ ≤ text.size) (hK : ∀ h1, Ext h h1 → Kr true h1) : law21_KeysPieces_j0 Kr text at_ h := by
  unfold law21_KeysPieces_j0
  refine new_sp (Own.init h) fun d1 h1 ho1 => new_sp ho1 fun d2 h2 ho2 => ?_
  simp only [Option.isNone_some, Bool.or_false, Bool.false_eq_true, if_false]
  refine feed_sp hT (ho2.perm (List.Perm.swap ..)) (by have : (⟨#[]⟩ : ByteArray).size = 0 := rfl; omega) fun a n c o h3 ho3 hs3 => ?_
  rw [nil_app] at ho3 hs3
  have hsplit := feed_split text.size (text.extract 0 at_.toNat) (text.extract at_.toNat text.size) (by rw [ByteArray.size_extract]; omega) (by rw [ext_join _ _ (by omega)]; omega)
  rw [ext_join _ _ (by omega)] at hsplit
  have hval := feed_valid text.size text (Nat.le_refl _) (by omega)
  have hsuf := feed_suffix text.size text (Nat.le_refl _) (by omega)
  have hl1 : (text.extract 0 at_.toNat).size = at_.toNat := by rw [ByteArray.size_extract]; omega
  have hl2 : (text.extract at_.toNat text.size).size = text.size - at_.toNat := by rw [ByteArray.size_extract]; omega
  have hsuf1 := feed_suffix _ (text.extract 0 at_.toNat) (Nat.le_refl _) (by omega)
  -- how many keys there are
  have hlen1 := feed_len _ (text.extract 0 at_.toNat) (Nat.le_refl _) (by omega)
  have hlenT := feed_len _ text (Nat.le_refl _) (by omega)
  have hsz3 : ((feedV (text.extract 0 at_.toNat)).2 ++ text.extract at_.toNat text.size).size ≤ text.size := by rw [ByteArray.size_append]; omega
  have n3 := hs3.1
  have z0 : (⟨#[]⟩ : ByteArray).size = 0 := rfl
  refine ⟨p0, p1, p0, p1, ?_, ?_⟩
  · refine newB_o ho3 fun b h4 ho4 => ?_
    refine feed_sp hT (s := ⟨#[]⟩) (t := 53) (l := (b, #[], 36) :: (d1, #[.string (feedV text).2], 53) :: o) (ho4.perm (by (classical exact List.perm_iff_count.2 (fun x => by simp only [List.count_append, List.count_cons, List.count_nil]; omega)))) (by omega) fun a5 n5 c5 o5 h5 ho5 hs5 => ?_
    rw [nil_app] at ho5 hs5
    have n5 := hs5.1
    exact pieces_rest hT hts p0 p1 (by rw [hsplit]) (by rw [hsplit]) hsz3 (by omega) (by omega) hval hsuf.1 hsuf.2 ho5 hs3 hs5 hK
  · refine feed_sp hT (s := ⟨#[]⟩) (t := 53) (l := (d1, #[.string (feedV text).2], 53) :: o) (ho3.perm (by (classical exact List.perm_iff_count.2 (fun x => by simp only [List.count_append, List.count_cons, List.count_nil]; omega)))) (by omega) fun a5 n5 c5 o5 h5 ho5 hs5 => ?_
    rw [nil_app] at ho5 hs5
    have n5 := hs5.1
    refine newB_o ho5 fun b h4 ho4 => ?_
    exact pieces_rest (b := b) hT hts p0 p1 (by rw [hsplit]) (by rw [hsplit]) hsz3 (by omega) (by omega) hval hsuf.1 hsuf.2 (ho4.perm (by (classical exact List.perm_iff_count.2 (fun x => by simp only [List.count_append, List.count_cons, List.count_nil]; omega)))) hs3 hs5 hK
theorem pieces_sp {K : Bool → Heap → Prop} {h : Heap} {text : ByteArray} {at_ : Int} (hT : TabH h) (hts : text.size ≤ 1000000000) (hK : ∀ h1, Ext h h1 → K true h1) : law21_KeysPieces text at_ K h := by
  unfold law21_KeysPieces
  split
  · have e : IntKind.wrap .i64 (Int.tdiv (text.size : Int) 2) = (text.size : Int) / 2 := by
      rw [Int.tdiv_eq_ediv_of_nonneg (by omega)]
      exact wrap64 (by omega) (by omega)
    rw [e]
    exact pieces_j0 hT hts (by omega) (by omega) hK
  · rename_i hc
    have hc : ¬ (at_ < 0 ∨ (text.size : Int) < at_) := by simpa using hc
    exact pieces_j0 hT hts (by omega) (by omega) hK
end Go.Proofs.YtkbpnmgkdodcmaaDoor.M
