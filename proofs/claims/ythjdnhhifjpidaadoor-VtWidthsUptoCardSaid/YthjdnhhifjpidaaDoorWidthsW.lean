import Derived.Test.YthjdnhhifjpidaaDoorV7
import Derived.Test.YthjdnhhifjpidaaDoorCards
import Derived.Test.YthjdnhhifjpidaaDoorTie
import Derived.WalkKit
import Derived.ProofKit
import Derived.OpenShut
import Derived.Deep.DeepHandedRow
import Derived.ChangeMaps5
set_option linter.unusedVariables false
set_option linter.unusedSimpArgs false
set_option maxRecDepth 100000
namespace Go.Proofs.YthjdnhhifjpidaaDoor.vtWidths
open Go Go.Hp Go.ChangeShapes Go.WideShapes Go.ChangeAt Go.RowKit Go.Proofs.YthjdnhhifjpidaaDoor.M

/-- From memory that grew to the kit's word for it. -/
theorem grown_of {w w' : World} (hr : Go.Hp.Rest w w') (he : Ext w.heap w'.heap) : Grown w w' := by
  refine ⟨⟨hr.os, hr.output, fun i hi => ?_⟩, fun a => ?_, he.1⟩
  · rw [he.2.1 i hi]
    cases w.heap[i]? with
    | none => rfl
    | some o => cases o <;> first | exact ⟨rfl, rfl, rfl, fun _ _ => rfl⟩ | exact .inr ⟨rfl, rfl⟩ | rfl
  · unfold World.frozen?
    rcases Nat.lt_or_ge a.block w.heap.size with hl | hl
    · rw [he.2.1 _ hl]
    · rw [Array.getElem?_eq_none (xs := w.heap) hl]
      cases hc : w'.heap[a.block]? with
      | none => rfl
      | some o =>
        cases o with
        | cells c t fr =>
          obtain rfl := he.2.2 _ c t fr hl hc
          simp
        | _ => rfl
/-- A law that comes to true, out of its printed function. -/
theorem calls_of {f : FuncId} {args : Array Value} {W : World} {R : Value → Heap → Prop} (hc : CallsH Tryd.prog f args R W.heap) (hR : ∀ v h', R v h' → v = .bool true ∧ Ext W.heap h') :
    Calls Tryd.prog f args W fun e w' => e = .returned (.bool true) ∧ Grown W w' :=
  (hc W rfl).mono fun e w' ⟨v, he, hr, hq⟩ => by
    obtain ⟨rfl, hx⟩ := hR v _ hq
    exact ⟨he, grown_of hr hx⟩

theorem own : ownKnob Tryd.prog.godebug = none := by kernel_rfl

theorem walk (c : Int) (W : World) : Calls Tryd.prog 3 #[.int .i32 c] W fun e w' => e = .returned (.bool true) ∧ Grown W w' :=
  calls_of (law19_VtWidths_ok c (fun r h' => r = true ∧ Ext W.heap h') W.heap (widths_sp fun h1 he => ⟨rfl, he⟩)) fun v h' ⟨r, hv, hr, hx⟩ => ⟨by rw [hv, hr], hx⟩

theorem contract (H : Type) (enc : TypeId × Value → H) (W : World) (base : Nat) (args : Array Value) (ds gs : List (DataW H)) (before : List MemPlace)
    (hval : ∀ (j : Nat) t v, Tryd.f3.params[j]? = some t → args[j]? = some v → Value.okWide Tryd.prog W .any base t v)
    (hW : DataW.Whole enc Tryd.prog Tryd.f3.params.toList Rows.vtWidthsSpec.vars false W args.toList ds gs before) :
    Calls Tryd.prog 3 args W fun e W' => ∃ v, e = .returned v ∧ Rows.vtWidthsSpec.post enc Tryd.prog Tryd.f3 false true false false W args v W' := by
  have hW' := hW
  obtain ⟨p, q, hA0, hV, rfl, hfz, hnd⟩ := hW
  have hA : DataW.TrodAll enc Tryd.prog W 0 (fun _ => true) true Tryd.f3.params.toList args.toList ds p := hA0
  rw [Tryd.params3] at hA hval
  obtain ⟨v0, vs0, d0, ds0, p0, q0, hargs, rfl, rfl, h0, r0⟩ := trodAll_cons hA
  obtain ⟨rfl, rfl, rfl⟩ := trodAll_nil r0
  obtain rfl : args = #[v0] := by cases args; simp_all
  obtain ⟨rfl, rfl⟩ := trodVars_none hV
  obtain ⟨a, rfl, rfl, rfl, wa⟩ := open_int Tryd.underlying21 (hval 0 21 v0 rfl rfl) h0
  clear hA0
  simp only [List.append_nil] at hW'
  refine (walk a W).mono fun e W' ⟨he, hg⟩ => ?_
  subst he
  exact ⟨_, rfl, post_of_same (pa := []) (pv := []) hW' (fun _ _ _ => trodAll_cons_mk (shut_bool Tryd.underlying4 _) trodAll_mk0) (fun _ _ => trodAll_cons_mk (shut_int Tryd.underlying21 wa) trodAll_mk0) (fun _ _ => rfl) rfl
    (hg.frame _) hg.2.1 (ok_one (by kernel_rfl) rfl (okWide_bool_mk Tryd.underlying4 _))⟩

/-- A world for the witness: the settled one, the tables holding what their initialisers lay. -/
def cellsOfD : DataW Unit → List Value
  | .agg parts => parts.flatMap fun d => match d with
    | .lit (.int k n) => [.int k n]
    | .agg [.lit (.int k n), .lit (.int k' n')] => [.int k n, .int k' n']
    | .agg [.lit (.string s), .lit (.int k n), .lit (.int k' n'), .lit (.bool b)] => [.string ⟨s.toArray⟩, .int k n, .int k' n', .bool b]
    | _ => []
  | _ => []
noncomputable def laidHeap (h : Heap) : List (Nat × DataW Unit) → Heap
  | [] => h
  | (g, d) :: l => laidHeap (h.modify g fun
      | .cells _ t fr => .cells (cellsOfD d).toArray t fr
      | o => o) l
noncomputable def laidWorld (os : Os) : World :=
  { World.holding Tryd.prog os ⟨#[], #[], []⟩ with heap := laidHeap (World.holding Tryd.prog os ⟨#[], #[], []⟩).heap [(0, Rows.laid_unicode_utf8_first), (1, Rows.laid_unicode_utf8_acceptRanges), (2, Rows.laid_internal_strconv_uint64pow10), (3, Rows.laid_math_bits_deBruijn32tab), (4, Rows.laid_math_bits_deBruijn64tab)] }
theorem laid_met (os : Os) : laidMet Tryd.prog Rows.vtWidthsUptoRow.laid ((laidWorld os).forCall (fun _ _ => 0) ⟨#[], #[.int .i32 0], []⟩).memory :=
  laidMet_of_run' 8 (by kernel_rfl) (by kernel_rfl)
theorem reads (os : Os) {H : Type} (enc : TypeId × Value → H) : ∃ places, DataW.whole enc Tryd.prog ((laidWorld os).forCall (fun _ _ => 0) ⟨#[], #[.int .i32 0], []⟩).memory Tryd.f3.params.toList Rows.vtWidthsSpec.vars false #[Value.int .i32 0].toList 8 = some ([.lit (.int .i32 0)], [], places) :=
  ⟨[], by kernel_rfl⟩

theorem liftedUpto (os : Os) (started : os.Started) (H : Type) (enc : TypeId × Value → H) (F : Stop.Interp) :
    ReturnsInHanded {} Tryd.checked os 3 .any ((Rows.OpenSpec.upto Rows.vtWidthsSpec).preRow enc Tryd.prog Tryd.f3 Rows.vtWidthsUptoRow.domain false Rows.vtWidthsUptoRow.laid) (((Rows.OpenSpec.upto Rows.vtWidthsSpec).at F).post enc Tryd.prog Tryd.f3 false true false false) := by
  obtain ⟨places, hx⟩ := reads os enc
  refine returnsInHanded_of_row (C := Tryd.checked) (s := Rows.OpenSpec.upto Rows.vtWidthsSpec) own started (by kernel_rfl) Tryd.func3
    (witness_row_at (enc := enc) (C := Tryd.checked) false (laidWorld os) #[.int .i32 0] rfl (by kernel_rfl) (by kernel_rfl) (by kernel_rfl)
      (OpenSpec.preRow_of_cond 8 hx (by kernel_rfl) (fun k hk => by cases hk; kernel_rfl) (by kernel_rfl) (laid_met os))) ?_
  intro W base args ds gs before hval hW _ hcond _ hL _ _
  exact contract H enc W base args ds gs before hval hW

theorem saidUpto : Rows.VtWidthsUptoSaid :=
  OpenClaim.holds_of_cond 3 Tryd.f3 rfl rfl rfl rfl rfl rfl rfl ⟨rfl, rfl, rfl, rfl, rfl⟩ rfl rfl rfl rfl rfl (by kernel_rfl) Tryd.func3 (by kernel_rfl)
    (of_decide_eq_true (by kernel_rfl)) (by unfold Func.isWrapper; first | (rw [if_pos (by decide +kernel)]; kernel_rfl) | (rw [if_neg (by decide +kernel)]; exact ⟨rfl, rfl⟩))
    (fun os started H enc _ F => by rw [OpenClaim.pre_eq_preRow]; exact liftedUpto os started H enc F)

theorem plain (f : FuncId) (fn : Func) (hf : Tryd.pinned.checked.prog.funcNamed "mullion/mullionlaw19.VtWidths" = some f) (hfn : Tryd.pinned.checked.prog.funcs[f]? = some fn) :
    false = Tryd.pinned.checked.prog.looks [] ∧ ∀ (j : Nat) t, fn.params[j]? = some t → Tryd.pinned.checked.prog.wantsStandIn t = false := by
  obtain rfl : f = 3 := Option.some.inj ((show Tryd.prog.funcNamed "mullion/mullionlaw19.VtWidths" = some 3 by kernel_rfl).symm.trans hf) |>.symm
  obtain rfl : fn = Tryd.f3 := (Option.some.inj (Tryd.func3.symm.trans hfn)).symm
  refine ⟨by kernel_rfl, fun j t ht => ?_⟩
  rw [Tryd.params3] at ht
  have : t = 21 := by simpa using Array.mem_of_getElem? ht
  subst this
  exact (show Tryd.prog.wantsStandIn 21 = false by kernel_rfl)

/-- THE CARD OF THE SECOND FORM. -/
theorem cardUpto : Rows.VtWidthsUptoCardSaid :=
  Claim7.holds_tied_plain_at .later [] _ _ _ _ saidUpto (fun _ h => by cases h) (by kernel_rfl) (fun _ h => by cases h) vtWidthsUpto_row_tie rfl ⟨rfl, rfl⟩ (by kernel_rfl) rfl plain (by kernel_rfl)
end Go.Proofs.YthjdnhhifjpidaaDoor.vtWidths
