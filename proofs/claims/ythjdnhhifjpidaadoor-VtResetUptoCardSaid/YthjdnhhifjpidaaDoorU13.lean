import Derived.Test.YthjdnhhifjpidaaDoorU12
import Derived.KernelRfl
set_option linter.unusedVariables false
set_option linter.unusedSimpArgs false
set_option maxRecDepth 100000
namespace Go.Proofs.YthjdnhhifjpidaaDoor.M
open Go Go.Hp

theorem own_cs {h0 : Base} {h : Heap} {b : Nat} {c c' : Array Value} {t : TypeId} {l : Blks} (ho : Own h0 h ((b, c, t) :: l)) (e : c = c') : Own h0 h ((b, c', t) :: l) := e ▸ ho

/-! ### The cursor is kept and brought back -/
def Scr.setKept (S : Scr) (p : Option Pl) : Scr := if S.alt = true then { S with okept := p } else { S with mkept := p }
def Scr.kept (S : Scr) : Option Pl := if S.alt = true then S.okept else S.mkept
def pl0 : Pl := ⟨0, 0, 0, 0, 0, false, false, false, false, false⟩
def keepCursorV (S : Scr) : Scr := S.setKept (some S.pl)
def backCursorV (S : Scr) : Scr := S.setPl (S.kept.getD pl0)
theorem Ok.setKept {S : Scr} (o : Ok S) {p : Option Pl} (hp : ∀ q, p = some q → Pin S.w S.h q) : Ok (S.setKept p) := by
  unfold Scr.setKept
  split
  · exact ⟨⟨o.d.w0, o.d.w1, o.d.h0, o.d.h1, o.d.m0, o.d.m1, o.d.past, o.d.main, o.d.other⟩, ⟨o.c.p, o.c.t0, o.c.tb, o.c.bh, o.c.tabs, o.c.gath, o.c.ans, o.c.hv0, o.c.hv1, o.c.km, hp⟩⟩
  · exact ⟨⟨o.d.w0, o.d.w1, o.d.h0, o.d.h1, o.d.m0, o.d.m1, o.d.past, o.d.main, o.d.other⟩, ⟨o.c.p, o.c.t0, o.c.tb, o.c.bh, o.c.tabs, o.c.gath, o.c.ans, o.c.hv0, o.c.hv1, hp, o.c.ko⟩⟩
theorem Ok.keepCursor {S : Scr} (o : Ok S) : Ok (keepCursorV S) := o.setKept fun q hq => by cases hq; exact o.c.p
theorem Ok.backCursor {S : Scr} (o : Ok S) : Ok (backCursorV S) := by
  refine o.setPl ?_
  have h0 : Pin S.w S.h pl0 := ⟨Int.le_refl _, by have := o.d.w0; show (0 : Int) < S.w; omega, Int.le_refl _, by have := o.d.h0; show (0 : Int) < S.h; omega⟩
  unfold Scr.kept
  split
  · cases he : S.okept with
    | none => exact h0
    | some q => exact o.c.ko q he
  · cases he : S.mkept with
    | none => exact h0
    | some q => exact o.c.km q he
theorem shown_o {h0 : Base} {h : Heap} {s : Nat} {cs : Array Value} {l : Blks} {al : Bool} {K : Option Addr → Heap → Prop} (ho : Own h0 h ((s, cs, 69) :: l)) (hc : cs[7]? = some (.bool al)) (h1 : al = true → K (some ⟨s, 5, none⟩) h) (h2 : al = false → K (some ⟨s, 3, none⟩) h) : vt_Screen_shown (some ⟨s, 0, none⟩) K h := by
  unfold vt_Screen_shown
  refine nz_i ?_
  simp only [add0, Nat.zero_add]
  refine ldB0 ho hc ?_
  by_cases hc : al = true
  · rw [if_pos hc]; exact h1 hc
  · rw [if_neg hc]; exact h2 (by simpa using hc)
theorem keepCursor_sp {h0 : Base} {h : Heap} {s : Nat} {S : Scr} {K : Heap → Prop} (hs : Rep h0 h s S) (hk : ∀ h1, Rep h0 h1 s (keepCursorV S) → K h1) : vt_Screen_keepCursor (some ⟨s, 0, none⟩) K h := by
  obtain ⟨A, oM, oO, oP, oT, oG, oK, oL, ho, hp⟩ := hs
  unfold vt_Screen_keepCursor
  refine nz_i ?_
  simp only [add0, Nat.zero_add]
  repeat (first | ((with_reducible apply newB_o); (with_reducible assumption); intro _ _ _) | ((with_reducible apply st0); (with_reducible assumption); rfl; intro _ _) | ((with_reducible apply ldI0); (with_reducible assumption); rfl) | ((with_reducible apply ldB0); (with_reducible assumption); rfl) | ((with_reducible apply ldS0); (with_reducible assumption); rfl) | (with_reducible apply nz_i))
  rename_i b h1 ho1 h2 ho2
  have ho2 : Own h0 h2 ((b, plC S.pl, 63) :: (s, scrC S A, 69) :: (oM ++ (oO ++ (oP ++ (oT ++ (oG ++ (oK ++ oL))))))) := own_cs ho2 (by kernel_rfl)
  have ho3 := ho2.perm (List.Perm.swap _ _ _)
  refine shown_o ho3 rfl (fun ha => nz_i ?_) (fun ha => nz_i ?_)
  · simp only [add0, Nat.zero_add]
    refine st0 ho3 rfl fun h4 ho4 => ?_
    have ho5 : Own h0 h4 (oL ++ ((s, scrC { S with okept := some S.pl } { A with oq := some ⟨b, 0, none⟩ }, 69) :: (oM ++ (oO ++ (oP ++ (oT ++ (oG ++ (oK ++ [(b, plC S.pl, 63)])))))))) := Own.perm (l := (s, scrC { S with okept := some S.pl } { A with oq := some ⟨b, 0, none⟩ }, 69) :: (b, plC S.pl, 63) :: (oM ++ (oO ++ (oP ++ (oT ++ (oG ++ (oK ++ oL))))))) (own_cs ho4 (by kernel_rfl)) (by (classical exact List.perm_iff_count.2 (fun x => by simp only [List.count_append, List.count_cons, List.count_nil]; omega)))
    refine hk h4 ?_
    unfold keepCursorV Scr.setKept
    rw [if_pos ha]
    exact ⟨{ A with oq := some ⟨b, 0, none⟩ }, oM, oO, oP, oT, oG, oK, _, ho5.sub (List.sublist_append_right _ _), hp.1, hp.2, hp.3, hp.4, hp.5, hp.6, ⟨b, rfl, rfl⟩⟩
  · simp only [add0, Nat.zero_add]
    refine st0 ho3 rfl fun h4 ho4 => ?_
    have ho5 : Own h0 h4 (oK ++ ((s, scrC { S with mkept := some S.pl } { A with mq := some ⟨b, 0, none⟩ }, 69) :: (oM ++ (oO ++ (oP ++ (oT ++ (oG ++ ([(b, plC S.pl, 63)] ++ oL)))))))) := Own.perm (l := (s, scrC { S with mkept := some S.pl } { A with mq := some ⟨b, 0, none⟩ }, 69) :: (b, plC S.pl, 63) :: (oM ++ (oO ++ (oP ++ (oT ++ (oG ++ (oK ++ oL))))))) (own_cs ho4 (by kernel_rfl)) (by (classical exact List.perm_iff_count.2 (fun x => by simp only [List.count_append, List.count_cons, List.count_nil]; omega)))
    refine hk h4 ?_
    unfold keepCursorV Scr.setKept
    rw [if_neg (by rw [ha]; decide)]
    exact ⟨{ A with mq := some ⟨b, 0, none⟩ }, oM, oO, oP, oT, oG, _, oL, ho5.sub (List.sublist_append_right _ _), hp.1, hp.2, hp.3, hp.4, hp.5, ⟨b, rfl, rfl⟩, hp.7⟩
/-- What is done with a kept cursor, wherever it stands. -/
theorem backCursor_k {h0 : Base} {h : Heap} {s : Nat} {cs : Array Value} {l o : Blks} {S : Scr} {A : Refs} {q : Option Addr} {kp : Option Pl} {K : Heap → Prop} (ho : Own h0 h ((s, scrC S A, 69) :: (o ++ l))) (hq : KeptR q kp o)
    (hk : ∀ h1, Own h0 h1 ((s, scrC (S.setPl (kp.getD pl0)) A, 69) :: (o ++ l)) → K h1) :
    (if (!q.isNone) = true then
   nz q fun p9 =>
   ldI h .i64 p9 fun x10 =>
   ldI h .i64 (p9.add 1) fun x12 =>
   ldI h .i64 (p9.add 2) fun x14 =>
   ldI h .i64 (p9.add 3) fun x16 =>
   ldI h .i64 (p9.add 4) fun x18 =>
   ldB h (p9.add 5) fun x20 =>
   ldB h (p9.add 6) fun x22 =>
   ldB h (p9.add 7) fun x24 =>
   ldB h (p9.add 8) fun x26 =>
   ldB h (p9.add 9) fun x28 =>
   nz (some ⟨s, 0, none⟩) fun p30 =>
   stN (p30.add 9) [.int .i64 x10, .int .i64 x12, .int .i64 x14, .int .i64 x16, .int .i64 x18, .bool x20, .bool x22, .bool x24, .bool x26, .bool x28] 0 h fun h31 =>
   K h31
  else
  nz (some ⟨s, 0, none⟩) fun p32 =>
  stN (p32.add 9) [.int .i64 0, .int .i64 0, .int .i64 0, .int .i64 0, .int .i64 0, .bool false, .bool false, .bool false, .bool false, .bool false] 0 h fun h33 =>
   K h33) := by
  cases kp with
  | none =>
    obtain ⟨rfl, rfl⟩ := hq
    rw [if_neg (by decide)]
    refine nz_i ?_
    simp only [add0, Nat.zero_add]
    exact st0 ho rfl fun h1 ho1 => hk h1 (own_cs ho1 (by kernel_rfl))
  | some p =>
    obtain ⟨b, rfl, rfl⟩ := hq
    have ho1 : Own h0 h ((b, plC p, 63) :: (s, scrC S A, 69) :: l) := ho.perm (List.Perm.swap _ _ _)
    rw [if_pos (show (!(some (⟨b, 0, none⟩ : Addr)).isNone) = true from rfl)]
    refine nz_i ?_
    simp only [add0, Nat.zero_add]
    iterate 5 (refine ldI0 ho1 rfl ?_)
    iterate 5 (refine ldB0 ho1 rfl ?_)
    refine nz_i ?_
    simp only [add0, Nat.zero_add]
    exact st0 ho rfl fun h1 ho2 => hk h1 (own_cs ho2 (by kernel_rfl))
theorem backCursor_sp {h0 : Base} {h : Heap} {s : Nat} {S : Scr} {K : Heap → Prop} (hs : Rep h0 h s S) (hk : ∀ h1, Rep h0 h1 s (backCursorV S) → K h1) : vt_Screen_backCursor (some ⟨s, 0, none⟩) K h := by
  obtain ⟨A, oM, oO, oP, oT, oG, oK, oL, ho, hp⟩ := hs
  unfold vt_Screen_backCursor
  unfold backCursorV Scr.kept at hk
  refine shown_o ho rfl (fun ha => nz_i ?_) (fun ha => nz_i ?_)
  · rw [if_pos ha] at hk
    simp only [add0, Nat.zero_add]
    refine ldP0 ho rfl ?_
    have ho1 : Own h0 h ((s, scrC S A, 69) :: (oL ++ (oM ++ (oO ++ (oP ++ (oT ++ (oG ++ oK))))))) := ho.perm (by (classical exact List.perm_iff_count.2 (fun x => by simp only [List.count_append, List.count_cons, List.count_nil]; omega)))
    have := backCursor_k (K := K) (cs := scrC S A) ho1 hp.okept fun h1 ho2 => hk h1 ⟨A, oM, oO, oP, oT, oG, oK, oL, ho2.perm (by (classical exact List.perm_iff_count.2 (fun x => by simp only [List.count_append, List.count_cons, List.count_nil]; omega))), hp.1, hp.2, hp.3, hp.4, hp.5, hp.6, hp.7⟩
    exact this
  · rw [if_neg (by rw [ha]; decide)] at hk
    simp only [add0, Nat.zero_add]
    refine ldP0 ho rfl ?_
    have ho1 : Own h0 h ((s, scrC S A, 69) :: (oK ++ (oM ++ (oO ++ (oP ++ (oT ++ (oG ++ oL))))))) := ho.perm (by (classical exact List.perm_iff_count.2 (fun x => by simp only [List.count_append, List.count_cons, List.count_nil]; omega)))
    have := backCursor_k (K := K) (cs := scrC S A) ho1 hp.mkept fun h1 ho2 => hk h1 ⟨A, oM, oO, oP, oT, oG, oK, oL, ho2.perm (by (classical exact List.perm_iff_count.2 (fun x => by simp only [List.count_append, List.count_cons, List.count_nil]; omega))), hp.1, hp.2, hp.3, hp.4, hp.5, hp.6, hp.7⟩
    exact this

/-! ### Modes are brought back -/
def soft0 (S : Scr) : Scr := { S with insert := false, newline := false, app := false, wrap := true, hidden := false, top := 0, bottom := S.h - 1, pl := { S.pl with origin := false, fore := 0, back := 0, marks := 0, l0 := false, l1 := false, second := false } }
def softV (S : Scr) : Scr := unwait ((soft0 S).setKept none)
theorem Ok.soft0 {S : Scr} (o : Ok S) : Ok (soft0 S) := by
  have := o.d.h0
  refine ⟨⟨o.d.w0, o.d.w1, o.d.h0, o.d.h1, o.d.m0, o.d.m1, o.d.past, o.d.main, o.d.other⟩, ⟨⟨o.c.p.x0, o.c.p.x1, o.c.p.y0, o.c.p.y1⟩, Int.le_refl _, ?_, ?_, o.c.tabs, o.c.gath, o.c.ans, o.c.hv0, o.c.hv1, o.c.km, o.c.ko⟩⟩
  · show (0 : Int) ≤ S.h - 1
    omega
  · show S.h - 1 < S.h
    omega
theorem Ok.soft {S : Scr} (o : Ok S) : Ok (softV S) := (o.soft0.setKept fun q hq => by cases hq).unwait
theorem soft_sp {h0 : Base} {h : Heap} {s : Nat} {S : Scr} {K : Heap → Prop} (hs : Rep h0 h s S) (o : Ok S) (hk : ∀ h1, Rep h0 h1 s (softV S) → K h1) : vt_Screen_soft (some ⟨s, 0, none⟩) K h := by
  have hh0 := o.d.h0
  have hh1 := o.d.h1
  obtain ⟨A, oM, oO, oP, oT, oG, oK, oL, ho, hp⟩ := hs
  unfold vt_Screen_soft
  refine nz_i ?_
  simp only [add0, Nat.zero_add]
  refine st0 ho rfl fun h1 ho => ?_
  refine st0 (own_cs (c' := scrC { S with insert := false } A) ho (by kernel_rfl)) rfl fun h1 ho => ?_
  refine st0 (own_cs (c' := scrC { S with insert := false, pl := { S.pl with origin := false } } A) ho (by kernel_rfl)) rfl fun h1 ho => ?_
  refine st0 (own_cs (c' := scrC { S with insert := false, newline := false, pl := { S.pl with origin := false } } A) ho (by kernel_rfl)) rfl fun h1 ho => ?_
  refine st0 (own_cs (c' := scrC { S with insert := false, newline := false, app := false, pl := { S.pl with origin := false } } A) ho (by kernel_rfl)) rfl fun h1 ho => ?_
  refine st0 (own_cs (c' := scrC { S with insert := false, newline := false, app := false, wrap := true, pl := { S.pl with origin := false } } A) ho (by kernel_rfl)) rfl fun h1 ho => ?_
  have ho := own_cs (c' := scrC { S with insert := false, newline := false, app := false, wrap := true, hidden := false, pl := { S.pl with origin := false } } A) ho (by kernel_rfl)
  refine ldI0 ho rfl ?_
  show stN _ [Value.int IntKind.i64 0] 0 h1 fun h12 => stN _ [Value.int IntKind.i64 (IntKind.wrap .i64 (S.h - 1))] 0 h12 _
  rw [wrap64 (by omega) (by omega)]
  refine st0 ho rfl fun h1 ho => ?_
  refine st0 (own_cs (c' := scrC { S with insert := false, newline := false, app := false, wrap := true, hidden := false, top := 0, pl := { S.pl with origin := false } } A) ho (by kernel_rfl)) rfl fun h1 ho => ?_
  refine st0 (own_cs (c' := scrC { S with insert := false, newline := false, app := false, wrap := true, hidden := false, top := 0, bottom := S.h - 1, pl := { S.pl with origin := false } } A) ho (by kernel_rfl)) rfl fun h1 ho => ?_
  refine st0 (own_cs (c' := scrC { S with insert := false, newline := false, app := false, wrap := true, hidden := false, top := 0, bottom := S.h - 1, pl := { S.pl with origin := false, fore := 0, back := 0, marks := 0 } } A) ho (by kernel_rfl)) rfl fun h1 ho => ?_
  refine st0 (own_cs (c' := scrC { S with insert := false, newline := false, app := false, wrap := true, hidden := false, top := 0, bottom := S.h - 1, pl := { S.pl with origin := false, fore := 0, back := 0, marks := 0, l0 := false, l1 := false } } A) ho (by kernel_rfl)) rfl fun h1 ho => ?_
  have ho1 : Own h0 h1 ((s, scrC (soft0 S) A, 69) :: (oM ++ (oO ++ (oP ++ (oT ++ (oG ++ (oK ++ oL))))))) := own_cs ho (by kernel_rfl)
  clear ho
  refine shown_o ho1 rfl (fun ha => nz_i ?_) (fun ha => nz_i ?_)
  · simp only [add0, Nat.zero_add]
    refine st0 ho1 rfl fun h4 ho4 => ?_
    have ho5 : Own h0 h4 (oL ++ ((s, scrC ({ soft0 S with okept := none }) { A with oq := none }, 69) :: (oM ++ (oO ++ (oP ++ (oT ++ (oG ++ oK))))))) := Own.perm (l := (s, scrC ({ soft0 S with okept := none }) { A with oq := none }, 69) :: (oM ++ (oO ++ (oP ++ (oT ++ (oG ++ (oK ++ oL))))))) (own_cs ho4 (by kernel_rfl)) (by (classical exact List.perm_iff_count.2 (fun x => by simp only [List.count_append, List.count_cons, List.count_nil]; omega)))
    have hr : Rep h0 h4 s ((soft0 S).setKept none) := by
      unfold Scr.setKept
      rw [if_pos ha]
      refine ⟨{ A with oq := none }, oM, oO, oP, oT, oG, oK, [], ?_, hp.1, hp.2, hp.3, hp.4, hp.5, hp.6, ⟨rfl, rfl⟩⟩
      rw [List.append_nil]
      exact ho5.sub (List.sublist_append_right _ _)
    exact unwait_st hr hk
  · simp only [add0, Nat.zero_add]
    refine st0 ho1 rfl fun h4 ho4 => ?_
    have ho5 : Own h0 h4 (oK ++ ((s, scrC ({ soft0 S with mkept := none }) { A with mq := none }, 69) :: (oM ++ (oO ++ (oP ++ (oT ++ (oG ++ oL))))))) := Own.perm (l := (s, scrC ({ soft0 S with mkept := none }) { A with mq := none }, 69) :: (oM ++ (oO ++ (oP ++ (oT ++ (oG ++ (oK ++ oL))))))) (own_cs ho4 (by kernel_rfl)) (by (classical exact List.perm_iff_count.2 (fun x => by simp only [List.count_append, List.count_cons, List.count_nil]; omega)))
    have hr : Rep h0 h4 s ((soft0 S).setKept none) := by
      unfold Scr.setKept
      rw [if_neg (by rw [ha]; decide)]
      exact ⟨{ A with mq := none }, oM, oO, oP, oT, oG, [], oL, ho5.sub (List.sublist_append_right _ _), hp.1, hp.2, hp.3, hp.4, hp.5, ⟨rfl, rfl⟩, hp.7⟩
    exact unwait_st hr hk

/-! ### The other screen -/
def swapV (S : Scr) (on : Bool) : Scr :=
  if on = S.alt then S else if on = true then unwait { S with alt := true, other := sheetV S.w S.h 0 S.pl.back 0, okept := none } else unwait { S with alt := false, other := [], okept := none }
theorem Ok.swap {S : Scr} (o : Ok S) (on : Bool) : Ok (swapV S on) := by
  have hh := o.d.h0
  have hw := o.d.w0
  unfold swapV
  split
  · exact o
  · split
    · refine Ok.unwait ⟨⟨o.d.w0, o.d.w1, o.d.h0, o.d.h1, o.d.m0, o.d.m1, o.d.past, o.d.main, fun _ => ⟨?_, fun g hg => ?_⟩⟩, ⟨o.c.p, o.c.t0, o.c.tb, o.c.bh, o.c.tabs, o.c.gath, o.c.ans, o.c.hv0, o.c.hv1, o.c.km, fun q hq => by cases hq⟩⟩
      · show ((List.replicate S.h.toNat _).length : Int) = S.h
        rw [List.length_replicate]; omega
      · have : g = List.replicate S.w.toNat (blankG 0 S.pl.back 0) := (List.mem_replicate.1 (show g ∈ List.replicate S.h.toNat _ from hg)).2
        show (g.length : Int) = S.w
        rw [this, List.length_replicate]; omega
    · exact Ok.unwait ⟨⟨o.d.w0, o.d.w1, o.d.h0, o.d.h1, o.d.m0, o.d.m1, o.d.past, o.d.main, fun hh => by cases hh⟩, ⟨o.c.p, o.c.t0, o.c.tb, o.c.bh, o.c.tabs, o.c.gath, o.c.ans, o.c.hv0, o.c.hv1, o.c.km, fun q hq => by cases hq⟩⟩
end Go.Proofs.YthjdnhhifjpidaaDoor.M
