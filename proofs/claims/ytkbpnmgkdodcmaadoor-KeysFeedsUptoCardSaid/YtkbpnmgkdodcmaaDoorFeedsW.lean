import Derived.Test.YtkbpnmgkdodcmaaDoorE1
import Derived.Test.YtkbpnmgkdodcmaaDoorW0
import Derived.SliceStrings
set_option linter.unusedVariables false
set_option linter.unusedSimpArgs false
set_option maxRecDepth 100000
namespace Go.Proofs.YtkbpnmgkdodcmaaDoor.keysFeeds
open Go Go.Hp Go.ChangeShapes Go.WideShapes Go.ChangeAt Go.RowKit Go.Proofs.YtkbpnmgkdodcmaaDoor.M

theorem own : ownKnob Tryd.prog.godebug = none := by kernel_rfl
theorem laidOut : laidOutB Tryd.prog = true := by kernel_rfl
/-- A law that comes to true, out of its printed function; what was there is as it was. -/
theorem calls_below {f : FuncId} {args : Array Value} {W : World} {R : Value → Heap → Prop} (hc : CallsH Tryd.prog f args R W.heap) (hR : ∀ v h', R v h' → v = .bool true ∧ Ext W.heap h') :
    Calls Tryd.prog f args W fun e w' => e = .returned (.bool true) ∧ Grown W w' ∧ Below W.heap.size W w' :=
  (hc W rfl).mono fun e w' ⟨v, he, hr, hq⟩ => by
    obtain ⟨rfl, hx⟩ := hR v _ hq
    exact ⟨he, grown_of hr hx, ⟨hr.os, hr.tape, hr.output, hx.1, fun k hk => hx.2.1 k hk⟩⟩
theorem walk (a : Option Addr) (n c : Nat) (ss : List ByteArray) (W : World) (hT : TabH W.heap) (hA : SlS W.heap a n ss) (hn : n < 9000000000000000000) (hs : totS ss ≤ 4000000000000) :
    Calls Tryd.prog 3 #[.slice a n c] W fun e w' => e = .returned (.bool true) ∧ Grown W w' ∧ Below W.heap.size W w' :=
  calls_below (law21_KeysFeeds_ok a n c (fun r h' => r = true ∧ Ext W.heap h') W.heap (feeds_sp hT hA hn hs fun h1 he => ⟨rfl, he⟩)) fun v h' ⟨r, hv, hr, hx⟩ => ⟨by rw [hv, hr], hx⟩
theorem bulk_strs {H : Type} : ∀ ss : List ByteArray, Rows.uptoBulkAll (strs ss : List (DataW H)) = totS ss + ss.length
  | [] => by simp [strs, totS, Rows.uptoBulkAll]
  | s :: ss => by
    have := bulk_strs (H := H) ss
    simp only [strs, List.map_cons, Rows.uptoBulkAll, Rows.uptoBulk, totS, List.sum_cons, List.length_cons] at this ⊢
    have hl : s.data.toList.length = s.size := rfl
    omega

theorem contract (H : Type) (enc : TypeId × Value → H) (W : World) (base : Nat) (args : Array Value) (ds gs : List (DataW H)) (before : List MemPlace)
    (hval : ∀ (j : Nat) t v, Tryd.f3.params[j]? = some t → args[j]? = some v → Value.okWide Tryd.prog W .any base t v)
    (hW : DataW.Whole enc Tryd.prog Tryd.f3.params.toList Rows.keysFeedsSpec.vars false W args.toList ds gs before) (hL : laidMetH Tryd.prog Rows.keysFeedsUptoRow.laid W)
    (hk : Rows.uptoSmall H (ds ++ gs) = true) :
    Calls Tryd.prog 3 args W fun e W' => ∃ v, e = .returned v ∧ Rows.keysFeedsSpec.post enc Tryd.prog Tryd.f3 false true false false W args v W' := by
  have hW' := hW
  obtain ⟨p, q, hA0, hV, rfl, hfz, hnd⟩ := hW
  have hA : DataW.TrodAll enc Tryd.prog W 0 (fun _ => true) true Tryd.f3.params.toList args.toList ds p := hA0
  rw [Tryd.params3] at hA hval
  obtain ⟨v0, vs0, d0, ds0, p0, q0, hargs, rfl, rfl, h0, r0⟩ := trodAll_cons hA
  obtain ⟨rfl, rfl, rfl⟩ := trodAll_nil r0
  obtain rfl : args = #[v0] := by cases args; simp_all
  obtain ⟨rfl, rfl⟩ := trodVars_none hV
  obtain ⟨a0, len, cap, rfl⟩ := okWide_slice Tryd.underlying22 (hval 0 22 v0 rfl rfl)
  have h0k := h0
  obtain ⟨fuel, hf⟩ := h0
  clear hA0
  simp only [List.append_nil] at hW'
  have hlt : ∀ x ∈ p0, x.block < W.heap.size := fun x hx => by simpa using hW'.lt x hx
  have hT := tabH_of (by kernel_rfl) hL (by simp [Rows.keysFeedsUptoRow])
  have key : ∃ ss : List ByteArray, SlS W.heap a0 len ss ∧ totS ss + ss.length ≤ 1048576 := by
    rcases open_strings Tryd.underlying22 Tryd.underlying9 (by kernel_rfl) hf with ⟨hcs, hx⟩ | ⟨a, len', cap', ss, hcs, _, hl, hm, hz, hx, hcell, hsz⟩
    · simp only [Value.cells, List.cons.injEq, Value.slice.injEq, and_true] at hcs
      obtain ⟨rfl, rfl, rfl⟩ := hcs
      exact ⟨[], ⟨rfl, fun i hi => by omega⟩, by decide⟩
    · simp only [Value.cells, List.cons.injEq, Value.slice.injEq, and_true] at hcs
      obtain ⟨rfl, rfl, rfl⟩ := hcs
      simp only [if_true] at hz
      refine ⟨ss.take len, ⟨by rw [List.length_take]; omega, fun i hi => ⟨a, rfl, ?_⟩⟩, ?_⟩
      · have := hcell i (by omega)
        rw [List.getD_eq_getElem?_getD, List.getElem?_take, if_pos hi, ← List.getD_eq_getElem?_getD]
        rw [List.getD_eq_getElem?_getD, List.getElem?_eq_getElem (by omega)] at this ⊢
        exact this
      · have hb := of_decide_eq_true hk
        obtain rfl : d0 = .slice (strs (ss.take len)) (strs (ss.drop len)) := congrArg Prod.fst hx
        simp only [List.append_nil, Rows.uptoBulkAll, Rows.uptoBulk, bulk_strs] at hb
        omega
  obtain ⟨ss, hA, hb⟩ := key
  have hn := hA.1
  refine (walk a0 len cap ss W hT hA (by omega) (by omega)).mono fun e W' ⟨he, hg, hB⟩ => ?_
  subst he
  exact ⟨_, rfl, post_of_same (pa := p0) (pv := []) hW' (fun _ _ _ => trodAll_cons_mk (shut_bool Tryd.underlying4 _) trodAll_mk0)
    (fun sp hsp => by
      have := WideElems.Trod_stays laidOut (by kernel_rfl) (of_decide_eq_true (by kernel_rfl)) h0k (W' := W') (sp' := sp) (fun x hx => hB.same (hlt x hx)) (fun x hx => hsp x (by simpa using hx))
      have h := trodAll_cons_mk this (trodAll_mk0 (enc := enc) (P := Tryd.prog) (w := W') (base := 0) (spare := sp) (held := true))
      rw [List.append_nil] at h
      exact h)
    (fun _ _ => rfl) (by simp)
    (hg.frame _) hg.2.1 (ok_one (by kernel_rfl) rfl (okWide_bool_mk Tryd.underlying4 _))⟩

/-- A world for the witness: the settled one, the tables holding what their initialisers lay. -/
def cellsOfD : DataW Unit → List Value
  | .agg parts => parts.flatMap fun d => match d with
    | .lit (.int k n) => [.int k n]
    | .agg [.lit (.string s), .lit (.int k n), .lit (.int k' n'), .lit (.bool b)] => [.string ⟨s.toArray⟩, .int k n, .int k' n', .bool b]
    | _ => []
  | _ => []
noncomputable def laidHeap (h : Heap) : List (Nat × DataW Unit) → Heap
  | [] => h
  | (g, d) :: l => laidHeap (h.modify g fun
      | .cells _ t fr => .cells (cellsOfD d).toArray t fr
      | o => o) l
noncomputable def laidWorld (os : Os) : World :=
  { World.holding Tryd.prog os ⟨#[], #[], []⟩ with heap := laidHeap (World.holding Tryd.prog os ⟨#[], #[], []⟩).heap [(0, Rows.laid_mullion_keys_shapes), (3, Rows.laid_internal_strconv_uint64pow10), (4, Rows.laid_math_bits_deBruijn32tab), (5, Rows.laid_math_bits_deBruijn64tab)] }
theorem laid_met (os : Os) : laidMet Tryd.prog Rows.keysFeedsUptoRow.laid ((laidWorld os).forCall (fun _ _ => 0) ⟨#[], #[.slice none 0 0], []⟩).memory :=
  laidMet_of_run' 8 (by kernel_rfl) (by kernel_rfl)
theorem reads (os : Os) {H : Type} (enc : TypeId × Value → H) : ∃ places, DataW.whole enc Tryd.prog ((laidWorld os).forCall (fun _ _ => 0) ⟨#[], #[.slice none 0 0], []⟩).memory Tryd.f3.params.toList Rows.keysFeedsSpec.vars false #[Value.slice none 0 0].toList 8 = some ([.nil], [], places) :=
  ⟨[], by kernel_rfl⟩

theorem liftedUpto (os : Os) (started : os.Started) (H : Type) (enc : TypeId × Value → H) (F : Stop.Interp) :
    ReturnsInHanded {} Tryd.checked os 3 .any ((Rows.OpenSpec.upto Rows.keysFeedsSpec).preRow enc Tryd.prog Tryd.f3 Rows.keysFeedsUptoRow.domain false Rows.keysFeedsUptoRow.laid) (((Rows.OpenSpec.upto Rows.keysFeedsSpec).at F).post enc Tryd.prog Tryd.f3 false true false false) := by
  obtain ⟨places, hx⟩ := reads os enc
  refine returnsInHanded_of_row (C := Tryd.checked) (s := Rows.OpenSpec.upto Rows.keysFeedsSpec) own started (by kernel_rfl) Tryd.func3
    (witness_row_at (enc := enc) (C := Tryd.checked) false (laidWorld os) #[.slice none 0 0] rfl (by kernel_rfl) (by kernel_rfl) (by kernel_rfl)
      (OpenSpec.preRow_of_cond 8 hx (by kernel_rfl) (fun k hk => by cases hk; kernel_rfl) (by kernel_rfl) (laid_met os))) ?_
  intro W base args ds gs before hval hW _ hcond _ hL _ _
  exact contract H enc W base args ds gs before hval hW hL (hcond _ rfl)

theorem saidUpto : Rows.KeysFeedsUptoSaid :=
  OpenClaim.holds_of_cond 3 Tryd.f3 rfl rfl rfl rfl rfl rfl rfl ⟨rfl, rfl, rfl, rfl, rfl⟩ rfl rfl rfl rfl rfl (by kernel_rfl) Tryd.func3 (by kernel_rfl)
    (of_decide_eq_true (by kernel_rfl)) (by unfold Func.isWrapper; first | (rw [if_pos (by decide +kernel)]; kernel_rfl) | (rw [if_neg (by decide +kernel)]; exact ⟨rfl, rfl⟩))
    (fun os started H enc _ F => by rw [OpenClaim.pre_eq_preRow]; exact liftedUpto os started H enc F)

theorem plain (f : FuncId) (fn : Func) (hf : Tryd.pinned.checked.prog.funcNamed "mullion/mullionlaw21.KeysFeeds" = some f) (hfn : Tryd.pinned.checked.prog.funcs[f]? = some fn) :
    false = Tryd.pinned.checked.prog.looks [] ∧ ∀ (j : Nat) t, fn.params[j]? = some t → Tryd.pinned.checked.prog.wantsStandIn t = false := by
  obtain rfl : f = 3 := Option.some.inj ((show Tryd.prog.funcNamed "mullion/mullionlaw21.KeysFeeds" = some 3 by kernel_rfl).symm.trans hf) |>.symm
  obtain rfl : fn = Tryd.f3 := (Option.some.inj (Tryd.func3.symm.trans hfn)).symm
  refine ⟨by kernel_rfl, fun j t ht => ?_⟩
  rw [Tryd.params3] at ht
  have : t = 22 := by simpa using Array.mem_of_getElem? ht
  subst this
  exact (show Tryd.prog.wantsStandIn 22 = false by kernel_rfl)

/-- THE CARD OF THE SECOND FORM. -/
theorem cardUpto : Rows.KeysFeedsUptoCardSaid :=
  Claim7.holds_tied_plain_at .later [] _ _ _ _ saidUpto (fun _ h => by cases h) (by kernel_rfl) (fun _ h => by cases h) keysFeedsUpto_row_tie rfl ⟨rfl, rfl⟩ (by kernel_rfl) rfl plain (by kernel_rfl)
end Go.Proofs.YtkbpnmgkdodcmaaDoor.keysFeeds
