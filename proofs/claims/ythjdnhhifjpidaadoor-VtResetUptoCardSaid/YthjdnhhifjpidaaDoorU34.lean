import Derived.Test.YthjdnhhifjpidaaDoorU33
set_option linter.unusedVariables false
set_option linter.unusedSimpArgs false
set_option maxRecDepth 100000
namespace Go.Proofs.YthjdnhhifjpidaaDoor.M
open Go Go.Hp

/-! ### A screen among other blocks -/
section
variable {h0 : Base} {h : Heap} {s : Nat} {S : Scr} {X Y : Blks} {b : Nat} {c : Array Value} {t : TypeId}
theorem RepX.own (hs : RepX h0 h s S X) : ∃ L, Own h0 h (L ++ X) ∧ ∀ X' h', Own h0 h' (L ++ X') → RepX h0 h' s S X' := by
  obtain ⟨A, oM, oO, oP, oT, oG, oK, oL, ho, hp⟩ := hs
  exact ⟨(s, scrC S A, 69) :: (oM ++ (oO ++ (oP ++ (oT ++ (oG ++ (oK ++ oL)))))), by simpa using ho, fun X' h' ho' => ⟨A, oM, oO, oP, oT, oG, oK, oL, by simpa using ho', hp⟩⟩
theorem RepX.newX {K : Nat → Heap → Prop} (hs : RepX h0 h s S X) (hk : ∀ b h1, RepX h0 h1 s S ((b, c, t) :: X) → K b h1) : newB h c t K := by
  obtain ⟨L, ho, hb⟩ := hs.own
  exact newB_o ho fun b h1 ho1 => hk b h1 (hb _ _ (ho1.perm (by (classical exact List.perm_iff_count.2 (fun x => by simp only [List.count_append, List.count_cons, List.count_nil]; omega)))))
theorem RepX.stX {off : Nat} {vs : List Value} {K : Heap → Prop} (hs : RepX h0 h s S (X ++ (b, c, t) :: Y)) (hle : Nat.ble (off + vs.length) c.size = true) (hk : ∀ h1, RepX h0 h1 s S (X ++ (b, setL c off vs, t) :: Y) → K h1) : stN ⟨b, off, none⟩ vs 0 h K := by
  obtain ⟨L, ho, hb⟩ := hs.own
  have ho : Own h0 h ((L ++ X) ++ (b, c, t) :: Y) := by simpa using ho
  exact stN_blk (ho.mid (x := (b, c, t))).1 (Nat.le_of_ble_eq_true hle) fun h1 hp => hk h1 (hb _ _ (by simpa using Own.putAt ho hp))
theorem RepX.blkX (hs : RepX h0 h s S X) (hm : (b, c, t) ∈ X) : Blk h b c t := by
  obtain ⟨L, ho, hb⟩ := hs.own
  exact (ho.blk (b, c, t) (List.mem_append.2 (.inr hm))).1
theorem RepX.subX (hs : RepX h0 h s S X) (hp : Y.Sublist X) : RepX h0 h s S Y := by
  obtain ⟨L, ho, hb⟩ := hs.own
  exact hb _ _ (ho.sub (hp.append_left _))
theorem RepX.cell {v : Value} {off : Nat} (hs : RepX h0 h s S X) (e : ∀ A, (scrC S A)[off]? = some v) : cellH h ⟨s, off, none⟩ = some v := by
  obtain ⟨A, oM, oO, oP, oT, oG, oK, oL, ho, hp⟩ := hs
  exact ho.get0.cell off (e A)
theorem RepX.lds {off : Nat} {v : ByteArray} {K : ByteArray → Prop} (hs : RepX h0 h s S X) (e : ∀ A, (scrC S A)[off]? = some (.string v)) (hk : K v) : ldS h ⟨s, off, none⟩ K := ⟨v, hs.cell e, hk⟩
theorem Rep.toX (hs : Rep h0 h s S) : RepX h0 h s S [] := by
  obtain ⟨A, oM, oO, oP, oT, oG, oK, oL, ho, hp⟩ := hs
  exact ⟨A, oM, oO, oP, oT, oG, oK, oL, by simpa using ho, hp⟩
theorem RepX.fix (hs : RepX h0 h s S X) : Rep ⟨h0.h, X ++ h0.X⟩ h s S := by
  obtain ⟨A, oM, oO, oP, oT, oG, oK, oL, ho, hp⟩ := hs
  refine ⟨A, oM, oO, oP, oT, oG, oK, oL, Own.fix ?_, hp⟩
  simpa using ho
theorem Rep.unfix (hs : Rep ⟨h0.h, X ++ h0.X⟩ h s S) : RepX h0 h s S X := by
  obtain ⟨A, oM, oO, oP, oT, oG, oK, oL, ho, hp⟩ := hs
  refine ⟨A, oM, oO, oP, oT, oG, oK, oL, ?_, hp⟩
  simpa using Own.unfix ho
theorem RepX.unfixX (hs : RepX ⟨h0.h, X ++ h0.X⟩ h s S Y) : RepX h0 h s S (Y ++ X) := by
  obtain ⟨A, oM, oO, oP, oT, oG, oK, oL, ho, hp⟩ := hs
  refine ⟨A, oM, oO, oP, oT, oG, oK, oL, ?_, hp⟩
  simpa using Own.unfix ho
theorem RepX.rest (hs : RepX h0 h s S X) : Own h0 h X := by
  obtain ⟨L, ho, hb⟩ := hs.own
  exact ho.sub (List.sublist_append_right _ _)

/-! ### A new screen -/
def zeroS (w h most : Int) : Scr := ⟨w, h, most, [], none, [], none, false, [], pl0, 0, 0, [], false, false, false, false, false, false, ⟨#[]⟩, 0, ⟨#[]⟩, 0, [], false, 0, 0, 0, 0, 0, 0, 0⟩
def newV (w h most : Int) : Scr := resetV (zeroS w h most)
theorem ok_new {w h most : Int} (w0 : 1 ≤ w) (w1 : w ≤ 1000) (hh0 : 1 ≤ h) (hh1 : h ≤ 1000) (m0 : 0 ≤ most) (m1 : most ≤ 2000) : Ok (newV w h most) := ok_reset (S := zeroS w h most) w0 w1 hh0 hh1 m0 m1 m0 (show (⟨#[]⟩ : ByteArray).size ≤ 4096 by decide)
theorem u8_new (w h most : Int) : U8 (newV w h most) := ⟨show (0 : Int) ≤ 0 by decide, show (0 : Int) ≤ 255 by decide⟩
def badV (w h most : Int) : Option Int := if 1 ≤ w ∧ w ≤ 1000 ∧ 1 ≤ h ∧ h ≤ 1000 then if 0 ≤ most ∧ most ≤ 2000 then none else some 1 else some 41
theorem New_sp {w hh most : Int} {K : Option Addr → Int → Heap → Prop} (ho : Own h0 h X) (hb : ∀ e h1, badV w hh most = some e → Own h0 h1 X → K none e h1)
    (hk : 1 ≤ w → w ≤ 1000 → 1 ≤ hh → hh ≤ 1000 → 0 ≤ most → most ≤ 2000 → ∀ b h1, RepX h0 h1 b (newV w hh most) X → K (some ⟨b, 0, none⟩) 0 h1) : vt_New w hh most K h := by
  have j1 : 1 ≤ w → w ≤ 1000 → 1 ≤ hh → hh ≤ 1000 → 0 ≤ most → most ≤ 2000 → ∀ h, Own h0 h X → vt_New_j1 (fun z46 z47 h48 => K (some ⟨z46, 0, none⟩) z47 h48) w hh most h := by
    intro w0 w1 hh0 hh1 m0 m1 h ho
    unfold vt_New_j1
    refine newB_o ho fun b h1 ho1 => ?_
    have ho1 := own_cs (c' := scrC (zeroS w hh most) ⟨none, 0, 0, none, none, 0, 0, none, none, 0, 0, none, 0, 0, none, 0, 0⟩) ho1 (by kernel_rfl)
    have hs1 : Rep ⟨h0.h, X ++ h0.X⟩ h1 b (zeroS w hh most) :=
      ⟨⟨none, 0, 0, none, none, 0, 0, none, none, 0, 0, none, 0, 0, none, 0, 0⟩, [], [], [], [], [], [], [], Own.fix (l := [(b, scrC (zeroS w hh most) ⟨none, 0, 0, none, none, 0, 0, none, none, 0, 0, none, 0, 0, none, 0, 0⟩, 69)]) ho1,
        ⟨[], [], [], rfl, SlO.nil, RowsB.nil⟩, ⟨[], [], [], rfl, SlO.nil, RowsB.nil⟩, ⟨[], [], [], rfl, SlO.nil, RowsB.nil⟩, SlO.nil, SlO.nil, ⟨rfl, rfl⟩, ⟨rfl, rfl⟩⟩
    exact reset_sp hs1 w0 w1 hh0 hh1 fun h2 hs2 => hk w0 w1 hh0 hh1 m0 m1 b h2 hs2.unfix
  have j0 : ∀ (q : Bool) (h : Heap), Own h0 h X → q = (!(vt_fits w && vt_fits hh)) → vt_New_j0 (fun z29 z30 z31 h32 => vt_New_j1 (fun z46 z47 h48 => K (some ⟨z46, 0, none⟩) z47 h48) z29 z30 z31 h32) (fun z52 z53 h54 => K z52 z53 h54) w hh most q h := by
    intro q h ho hq
    unfold vt_New_j0
    unfold badV at hb
    subst hq
    unfold vt_fits
    by_cases h1 : 1 ≤ w ∧ w ≤ 1000 ∧ 1 ≤ hh ∧ hh ≤ 1000
    case neg =>
      rw [if_pos (by simp; omega)]
      exact hb 41 h (if_neg h1) ho
    rw [if_neg (by simp; omega)]
    simp only [if_pos h1] at hb
    by_cases h2 : most < 0
    · rw [if_pos h2]
      exact hb 1 h (if_neg (by omega)) ho
    rw [if_neg h2]
    by_cases h3 : 2000 < most
    · rw [if_pos h3]
      exact hb 1 h (if_neg (by omega)) ho
    rw [if_neg h3]
    exact j1 h1.1 h1.2.1 h1.2.2.1 h1.2.2.2 (by omega) (by omega) h ho
  unfold vt_New
  by_cases h1 : vt_fits w = true
  · rw [if_neg (by rw [h1]; decide)]
    refine gap_o ho fun h2 ho2 => j0 _ h2 ho2 (by rw [h1]; simp)
  · rw [if_pos (by simpa using h1)]
    refine gap_o ho fun h2 ho2 => j0 _ h2 ho2 (by simp [h1])
end
end Go.Proofs.YthjdnhhifjpidaaDoor.M
