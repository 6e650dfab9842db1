import Derived.Test.YtkbpnmgkdodcmaaDoorF3
import Derived.Test.YtkbpnmgkdodcmaaDoorB11
set_option linter.unusedVariables false
set_option linter.unusedSimpArgs false
set_option maxRecDepth 100000
namespace Go.Proofs.YtkbpnmgkdodcmaaDoor.M
open Go Go.Hp

theorem round_j1 {Kn : Option Addr → Nat → Nat → Bool → ByteArray → Option Addr → Nat → Nat → Int → Heap → Prop} {h0 h : Heap} {a : Option Addr} {n c : Nat} {ks : List (Int × Int)} {app : Bool} {T : ByteArray} {aw : Option Addr} {nw cw : Nat} {wks : List (Int × Int)} {ow} {i : Nat}
    (hT : TabH h0) (hA : SlG h0 a n ks) (hi : i < n) (ho : Own h0 h ([] ++ (ow ++ []))) (hw : SlO kf 2 36 aw nw cw wks ow) (hTs : T.size ≤ 4000000000000) (hwl : wks.length ≤ 4000000000000)
    (hv : keys_Valid (ks.getD i (0, 0)).1 (ks.getD i (0, 0)).2 = true)
    (h1 : loneB (ks.getD i (0, 0)).1 (ks.getD i (0, 0)).2 = true → Kn a n c app T aw nw cw i h)
    (h2 : ∀ aw' cw' ow' h', loneB (ks.getD i (0, 0)).1 (ks.getD i (0, 0)).2 = false → Own h0 h' ([] ++ (ow' ++ [])) → SlO kf 2 36 aw' (nw + 1) cw' (wks ++ [ks.getD i (0, 0)]) ow' →
      Kn a n c app (T ++ bytesV (ks.getD i (0, 0)).1 (ks.getD i (0, 0)).2 app) aw' (nw + 1) cw' i h') : law21_KeysRound_j1 Kn a n c app T aw nw cw i h := by
  obtain ⟨p, rfl, d1, d2⟩ := hA.2 i hi
  have hlt : (i : Int) < (n : Int) := by omega
  generalize ks.getD i (0, 0) = k at *
  have c1 : ∀ h', Ext h0 h' → cellH h' (p.add ((i : Int).toNat * 2)) = some (.int .i64 k.1) := fun h' he => by rw [show (i : Int).toNat * 2 = i * 2 by omega]; exact he.cell d1
  have c2 : ∀ h', Ext h0 h' → cellH h' ((p.add ((i : Int).toNat * 2)).add 1) = some (.int .i64 k.2) := fun h' he => by rw [show (i : Int).toNat * 2 = i * 2 by omega]; exact he.cell d2
  unfold law21_KeysRound_j1
  refine nz_i ⟨by omega, hlt, ⟨_, c1 h ho.ext, ⟨_, c2 h ho.ext, ?_⟩⟩⟩
  simp only []
  unfold loneB at h1 h2
  by_cases a1 : (!((k.1 == 27) && (k.2 == 0))) = true
  · rw [if_pos a1]
    refine ⟨by omega, hlt, ⟨_, c1 h ho.ext, ⟨_, c2 h ho.ext, ?_⟩⟩⟩
    simp only []
    by_cases a2 : (!((k.1 == 91) && (k.2 == 2))) = true
    · rw [if_pos a2]
      refine ⟨by omega, hlt, ⟨_, c1 h ho.ext, ⟨_, c2 h ho.ext, ?_⟩⟩⟩
      simp only []
      by_cases a3 : (!((k.1 == 79) && (k.2 == 2))) = true
      · rw [if_pos a3]
        refine ⟨by omega, hlt, ⟨_, c1 h ho.ext, ⟨_, c2 h ho.ext, ?_⟩⟩⟩
        simp only []
        have hbs := bytes_small (app := app) hv
        refine bytes_sp (ho.tab hT) fun h3 he3 => ?_
        have ho3 := ho.gap he3
        refine ⟨by omega, by omega, hlt, ⟨_, c1 h3 ho3.ext, ⟨_, c2 h3 ho3.ext, ?_⟩⟩⟩
        refine gap_o ho3 fun h4 ho4 => ?_
        have hl := hw.1
        refine SlO.app (f := kf) (sz := 2) (js := [k]) (pre := []) kf_len rfl hw ho4 (by simp only [List.length_singleton]; omega) (by simp only [List.length_singleton]; omega) fun a' c' o' h' ho5 hs5 => ?_
        refine h2 a' c' o' h' ?_ ho5 hs5
        simp only [Bool.not_eq_true'] at a1 a2 a3
        rw [a1, a2, a3]
        rfl
      · rw [if_neg a3]
        refine h1 ?_
        simp only [Bool.not_eq_true', Bool.not_eq_false] at a3
        rw [a3, Bool.or_true]
    · rw [if_neg a2]
      refine h1 ?_
      simp only [Bool.not_eq_true', Bool.not_eq_false] at a2
      rw [a2, Bool.or_true, Bool.true_or]
  · rw [if_neg a1]
    refine h1 ?_
    simp only [Bool.not_eq_true', Bool.not_eq_false] at a1
    rw [a1, Bool.true_or, Bool.true_or]
theorem round_l0 {K0 : ByteArray → Option Addr → Nat → Nat → Heap → Prop} {Kr : Bool → Heap → Prop} {h0 : Heap} {a : Option Addr} {n c : Nat} {ks : List (Int × Int)} {app : Bool}
    (hT : TabH h0) (hA : SlG h0 a n ks) (hn : n ≤ 2000000)
    (hK : ∀ T wks aw nw cw ow h1, Own h0 h1 ([] ++ (ow ++ [])) → SlO kf 2 36 aw nw cw wks ow → feedV T = (wks, ⟨#[]⟩) → T.size ≤ 16 * n → wks.length ≤ n → K0 T aw nw cw h1) :
    ∀ (f : Nat) (i : Nat) (T : ByteArray) (wks : List (Int × Int)) (aw : Option Addr) (nw cw : Nat) (ow) (h : Heap), Own h0 h ([] ++ (ow ++ [])) → SlO kf 2 36 aw nw cw wks ow → feedV T = (wks, ⟨#[]⟩) → T.size ≤ 16 * i → wks.length ≤ i → n < f + i → i ≤ n →
      law21_KeysRound_l0 K0 Kr f a n c app T aw nw cw i h := by
  intro f
  induction f with
  | zero => intro i T wks aw nw cw ow h ho hw hf hTs hwl hfi hi; omega
  | succ f ih =>
    intro i T wks aw nw cw ow h ho hw hf hTs hwl hfi hi
    unfold law21_KeysRound_l0
    simp only [toListE]
    have e1 : IntKind.wrap .i64 ((i : Int) + 1) = ((i + 1 : Nat) : Int) := by rw [wrap64 (by omega) (by omega)]; omega
    by_cases hlt : (i : Int) < (n : Int)
    · rw [if_pos hlt]
      have hi' : i < n := by omega
      obtain ⟨p, hp, d1, d2⟩ := hA.2 i hi'
      have hj1 := fun Kn h T aw nw cw wks ow => @round_j1 Kn h0 h a n c ks app T aw nw cw wks ow i hT hA hi'
      generalize hkk : ks.getD i (0, 0) = k at *
      subst hp
      have c1 : ∀ h', Ext h0 h' → cellH h' (p.add ((i : Int).toNat * 2)) = some (.int .i64 k.1) := fun h' he => by rw [show (i : Int).toNat * 2 = i * 2 by omega]; exact he.cell d1
      have c2 : ∀ h', Ext h0 h' → cellH h' ((p.add ((i : Int).toNat * 2)).add 1) = some (.int .i64 k.2) := fun h' he => by rw [show (i : Int).toNat * 2 = i * 2 by omega]; exact he.cell d2
      refine nz_i ⟨by omega, hlt, ⟨_, c1 h ho.ext, ⟨_, c2 h ho.ext, ?_⟩⟩⟩
      simp only []
      by_cases hv : keys_Valid k.1 k.2 = false
      · rw [if_pos (by rw [hv]; rfl)]
        refine gap_o ho fun h1 ho1 => ?_
        rw [e1]
        exact ih (i + 1) T wks aw nw cw ow h1 ho1 hw hf (by omega) (by omega) (by omega) (by omega)
      have hv : keys_Valid k.1 k.2 = true := by simpa using hv
      rw [if_neg (by rw [hv]; decide)]
      refine gap_o ho fun h1 ho1 => ?_
      refine new_sp ho1 fun d h2 ho2 => ?_
      rw [if_neg (by simp)]
      refine ⟨by omega, hlt, ⟨_, c1 h2 ho2.ext, ⟨_, c2 h2 ho2.ext, ?_⟩⟩⟩
      have hbs := bytes_small (app := app) hv
      refine bytes_sp (ho2.tab hT) fun h3 he3 => ?_
      have ho3 := ho2.gap he3
      have z0 : (⟨#[]⟩ : ByteArray).size = 0 := rfl
      refine feed_sp hT ho3 (by omega) fun a1 n1 k1 o1 h4 ho4 hs1 => ?_
      rw [nil_app] at ho4 hs1
      have hsuf := (feed_suffix _ (bytesV k.1 k.2 app) (Nat.le_refl _) (by omega)).1
      have hlen := feed_len _ (bytesV k.1 k.2 app) (Nat.le_refl _) (by omega)
      refine flush_sp ho4 (by omega) fun a2 n2 k2 o2 h5 ho5 hs2 => ?_
      have hround := round_key (app := app) hv
      have hfl := flushF_len ((feedV (bytesV k.1 k.2 app)).2.size + 1) (feedV (bytesV k.1 k.2 app)).2 []
      have hfl : (flushV (feedV (bytesV k.1 k.2 app)).2).length ≤ 20 := by unfold flushV; simp only [List.length_nil] at hfl; omega
      generalize (feedV (bytesV k.1 k.2 app)).1 = l1 at *
      generalize flushV (feedV (bytesV k.1 k.2 app)).2 = l2 at *
      have n1e := hs1.1
      have n2e := hs2.1
      refine ⟨by omega, hlt, ⟨_, c1 h5 ho5.ext, ⟨_, c2 h5 ho5.ext, ?_⟩⟩⟩
      -- what follows, whichever came first
      have tail : ∀ (h' : Heap) (a' : Option Addr) (c' b' : Nat) (o' rest), Own h0 h' ((b', #[.int .i64 k.1, .int .i64 k.2], 36) :: (o' ++ ((d, #[.string ⟨#[]⟩], 53) :: (ow ++ rest)))) → SlO kf 2 36 a' (0 + n1 + n2) c' (l1 ++ l2) o' →
          law21_same a' ((0 + n1) + n2) c' (some ⟨b', 0, none⟩) 1 1 (fun x68 h67 =>
            if (!x68) = true then Kr false h67 else
            keys_Decoder_Held (some ⟨d, 0, none⟩) (fun x71 h70 =>
             if (!(x71.data.toList == (⟨#[]⟩ : ByteArray).data.toList)) = true then Kr false h70
             else
             law21_KeysRound_j1 (fun z161 z161n z161c z162 z163 z164 z164n z164c z165 h166 => law21_KeysRound_l0 K0 Kr f z161 z161n z161c z162 z163 z164 z164n z164c (IntKind.wrap .i64 (z165 + 1)) h166) (some p) n c app T aw nw cw i h70) h67) h' := by
        intro h' a' c' b' o' rest hoT hsT
        have hoA : Own h0 h' ([(b', #[.int .i64 k.1, .int .i64 k.2], 36)] ++ (o' ++ ((d, #[.string ⟨#[]⟩], 53) :: (ow ++ rest)))) := hoT
        have hoB : Own h0 h' ([] ++ ([(b', #[.int .i64 k.1, .int .i64 k.2], 36)] ++ (o' ++ ((d, #[.string ⟨#[]⟩], 53) :: (ow ++ rest))))) := hoT
        have hB : SlO kf 2 36 (some ⟨b', 0, none⟩) 1 1 [k] [(b', #[.int .i64 k.1, .int .i64 k.2], 36)] := lit_slo [k] rfl
        refine same_sp (SlO.slg (pre := [(b', #[.int .i64 k.1, .int .i64 k.2], 36)]) hsT hoA) (SlO.slg (pre := []) hB hoB) (by omega) ?_
        rw [hround, decide_eq_true rfl, if_neg (by decide)]
        have hoD : Own h0 h' ((d, #[.string ⟨#[]⟩], 53) :: (ow ++ (rest ++ ((b', #[.int .i64 k.1, .int .i64 k.2], 36) :: o')))) := hoT.perm (by (classical exact List.perm_iff_count.2 (fun x => by simp only [List.count_append, List.count_cons, List.count_nil]; omega)))
        refine held_sp hoD ?_
        rw [if_neg (by decide)]
        have hoE : Own h0 h' ([] ++ (ow ++ [])) := by
          have := Own.tail hoD
          exact this.sub (by simp)
        refine hj1 _ _ _ _ _ _ _ _ hoE hw (by omega) (by omega) hv (fun hlone => ?_) (fun aw' cw' ow' h'' hlone ho6 hs6 => ?_)
        · rw [e1]
          exact ih (i + 1) T wks aw nw cw ow h' hoE hw hf (by omega) (by omega) (by omega) (by omega)
        · rw [e1]
          have hTz : (T ++ bytesV k.1 k.2 app).size = T.size + (bytesV k.1 k.2 app).size := ByteArray.size_append ..
          refine ih (i + 1) _ (wks ++ [k]) aw' _ cw' ow' h'' ho6 hs6 ?_ (by omega) (by simp only [List.length_append, List.length_singleton]; omega) (by omega) (by omega)
          rw [feed_split _ T _ (Nat.le_refl _) (by omega), hf]
          simp only []
          rw [nil_app, feed_key hv hlone]
      have ho5' : Own h0 h5 (o2 ++ (o1 ++ ((d, #[.string ⟨#[]⟩], 53) :: ow))) := ho5.perm (by simp only [List.append_nil, List.nil_append]; (classical exact List.perm_iff_count.2 (fun x => by simp only [List.count_append, List.count_cons, List.count_nil]; omega)))
      refine ⟨?_, ?_⟩
      · refine newB_o ho5' fun b1 h6 ho6 => ⟨⟨c1 h6 ho6.ext, c2 h6 ho6.ext⟩, ?_, ?_⟩
        · have hs0 : SlO kf 2 36 (some ⟨b1, 0, none⟩) 0 0 [] [(b1, #[], 36)] := lit_slo [] rfl
          have ho6a : Own h0 h6 ([] ++ ([(b1, #[], 36)] ++ (o2 ++ (o1 ++ ((d, #[.string ⟨#[]⟩], 53) :: ow))))) := ho6
          have hsrc1 := hs1.srcAt (pre := (b1, #[], 36) :: o2) (l := (d, #[.string ⟨#[]⟩], 53) :: ow) (by simpa using ho6a)
          refine appS_o hs0 ho6a n1e hsrc1 (by omega) fun a3 c3 o3 h7 ho7 hs3 => ⟨⟨c1 h7 ho7.ext, c2 h7 ho7.ext⟩, ?_, ?_⟩
          · have hsrc2 := hs2.srcAt (pre := o3) (l := o1 ++ ((d, #[.string ⟨#[]⟩], 53) :: ow)) (by simpa using ho7)
            refine appS_o hs3 ho7 n2e hsrc2 (by omega) fun a4 c4 o4 h8 ho8 hs4 => ⟨⟨c1 h8 ho8.ext, c2 h8 ho8.ext⟩, ?_⟩
            refine newB_o ho8 fun b2 h9 ho9 => tail h9 a4 c4 b2 o4 (o2 ++ o1) (ho9.perm (by simp only [List.nil_append]; (classical exact List.perm_iff_count.2 (fun x => by simp only [List.count_append, List.count_cons, List.count_nil]; omega)))) (by simpa using hs4)
          · refine newB_o ho7 fun b2 h8 ho8 => ?_
            have ho8 : Own h0 h8 ([(b2, #[.int .i64 k.1, .int .i64 k.2], 36)] ++ (o3 ++ (o2 ++ (o1 ++ ((d, #[.string ⟨#[]⟩], 53) :: ow))))) := ho8
            have hsrc2 := hs2.srcAt (pre := (b2, #[.int .i64 k.1, .int .i64 k.2], 36) :: o3) (l := o1 ++ ((d, #[.string ⟨#[]⟩], 53) :: ow)) (by simpa using ho8)
            refine appS_o hs3 ho8 n2e hsrc2 (by omega) fun a4 c4 o4 h9 ho9 hs4 => tail h9 a4 c4 b2 o4 (o2 ++ o1) (ho9.perm (by (classical exact List.perm_iff_count.2 (fun x => by simp only [List.count_append, List.count_cons, List.count_nil]; omega)))) (by simpa using hs4)
        · refine newB_o ho6 fun b2 h7 ho7 => ?_
          have hs0 : SlO kf 2 36 (some ⟨b1, 0, none⟩) 0 0 [] [(b1, #[], 36)] := lit_slo [] rfl
          have ho7 : Own h0 h7 ([(b2, #[.int .i64 k.1, .int .i64 k.2], 36)] ++ ([(b1, #[], 36)] ++ (o2 ++ (o1 ++ ((d, #[.string ⟨#[]⟩], 53) :: ow))))) := ho7
          have hsrc1 := hs1.srcAt (pre := (b2, #[.int .i64 k.1, .int .i64 k.2], 36) :: (b1, #[], 36) :: o2) (l := (d, #[.string ⟨#[]⟩], 53) :: ow) (by simpa using ho7)
          refine appS_o hs0 ho7 n1e hsrc1 (by omega) fun a3 c3 o3 h8 ho8 hs3 => ?_
          have hsrc2 := hs2.srcAt (pre := (b2, #[.int .i64 k.1, .int .i64 k.2], 36) :: o3) (l := o1 ++ ((d, #[.string ⟨#[]⟩], 53) :: ow)) (by simpa using ho8)
          refine appS_o hs3 ho8 n2e hsrc2 (by omega) fun a4 c4 o4 h9 ho9 hs4 => tail h9 a4 c4 b2 o4 (o2 ++ o1) (ho9.perm (by (classical exact List.perm_iff_count.2 (fun x => by simp only [List.count_append, List.count_cons, List.count_nil]; omega)))) (by simpa using hs4)
      · refine newB_o ho5' fun b2 h6 ho6 => newB_o ho6 fun b1 h7 ho7 => ?_
        have hs0 : SlO kf 2 36 (some ⟨b1, 0, none⟩) 0 0 [] [(b1, #[], 36)] := lit_slo [] rfl
        have ho7 : Own h0 h7 ([] ++ ([(b1, #[], 36)] ++ ((b2, #[.int .i64 k.1, .int .i64 k.2], 36) :: (o2 ++ (o1 ++ ((d, #[.string ⟨#[]⟩], 53) :: ow)))))) := ho7
        have hsrc1 := hs1.srcAt (pre := (b1, #[], 36) :: (b2, #[.int .i64 k.1, .int .i64 k.2], 36) :: o2) (l := (d, #[.string ⟨#[]⟩], 53) :: ow) (by simpa using ho7)
        refine appS_o hs0 ho7 n1e hsrc1 (by omega) fun a3 c3 o3 h8 ho8 hs3 => ?_
        have hsrc2 := hs2.srcAt (pre := o3 ++ [(b2, #[.int .i64 k.1, .int .i64 k.2], 36)]) (l := o1 ++ ((d, #[.string ⟨#[]⟩], 53) :: ow)) (by simpa using ho8)
        refine appS_o hs3 ho8 n2e hsrc2 (by omega) fun a4 c4 o4 h9 ho9 hs4 => tail h9 a4 c4 b2 o4 (o2 ++ o1) (ho9.perm (by simp only [List.nil_append]; (classical exact List.perm_iff_count.2 (fun x => by simp only [List.count_append, List.count_cons, List.count_nil]; omega)))) (by simpa using hs4)
    · rw [if_neg hlt]
      exact hK T wks aw nw cw ow h ho hw hf (by omega) (by omega)
theorem round_sp {K : Bool → Heap → Prop} {h : Heap} {a : Option Addr} {n c : Nat} {ks : List (Int × Int)} {app : Bool} (hT : TabH h) (hA : SlG h a n ks) (hn : n ≤ 2000000) (hK : ∀ h1, Ext h h1 → K true h1) : law21_KeysRound a n c app K h := by
  unfold law21_KeysRound
  refine ⟨n + 1, round_l0 hT hA hn (fun T wks aw nw cw ow h1 ho hw hf hTs hwl => ?_) (n + 1) 0 ⟨#[]⟩ [] none 0 0 [] h (Own.init h) SlO.nil (feedV_empty _ rfl) (by show 0 ≤ _; omega) (by simp) (by omega) (by omega)⟩
  simp only [toListE]
  refine new_sp ho fun d h2 ho2 => ?_
  rw [if_neg (by simp)]
  have z0 : (⟨#[]⟩ : ByteArray).size = 0 := rfl
  refine feed_sp hT ho2 (by omega) fun a1 n1 k1 o1 h3 ho3 hs1 => ?_
  rw [nil_app, hf] at ho3 hs1
  simp only [] at ho3 hs1
  have hn1 : n1 = wks.length := hs1.1
  have hoA : Own h h3 ([(d, #[.string ⟨#[]⟩], 53)] ++ (o1 ++ ([] ++ (ow ++ [])))) := ho3
  have hoB : Own h h3 ((d, #[.string ⟨#[]⟩], 53) :: o1 ++ (ow ++ [])) := by simpa using ho3
  refine same_sp (SlO.slg hs1 hoA) (SlO.slg hw hoB) (by omega) ?_
  rw [decide_eq_true rfl, if_pos rfl]
  refine held_sp ho3 ?_
  rw [if_pos (by decide)]
  exact sure_sp (ho3.tab hT) fun h4 he => hK h4 (ho3.ext.trans he)
end Go.Proofs.YtkbpnmgkdodcmaaDoor.M
