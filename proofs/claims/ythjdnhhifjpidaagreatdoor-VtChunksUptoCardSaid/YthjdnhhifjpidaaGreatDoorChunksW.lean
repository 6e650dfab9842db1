/-
  VtChunks: bytes that are cut, wherever it is, do what the whole does, and so do all bytes one by one: the screens show and tell the same. Conditions: the arguments together are of no more than the second form's bulk; the library's tables hold what their initialisers laid.
-/
import Derived.Test.YthjdnhhifjpidaaGreatDoorW0
set_option linter.unusedVariables false
set_option linter.unusedSimpArgs false
set_option maxRecDepth 100000
namespace Go.Proofs.YthjdnhhifjpidaaGreatDoor.vtChunks
open Go Go.Hp Go.ChangeShapes Go.WideShapes Go.ChangeAt Go.RowKit Go.Proofs.YthjdnhhifjpidaaGreatDoor.M

theorem own : ownKnob Tryz.prog.godebug = none := by kernel_rfl

theorem walk (x y z : Int) (t : ByteArray) (a : Option Addr) (n c : Nat) (ks : List Int) (W : World) (hT : Tabs W.heap) (ht : t.size ≤ 1000000000) (hI : IAt W.heap a n ks) (hn : n ≤ 1000000000) :
    Calls Tryz.prog 8 #[.agg #[.int .i64 x, .int .i64 y, .int .i64 z], .string t, .slice a n c] W fun e w' => e = .returned (.bool true) ∧ Kept W w' ∧ Below W.heap.size W w' :=
  calls_of (law19_VtChunks_ok x y z t a n c (fun r h' => r = true ∧ Ext W.heap h') W.heap (chunks_sp hT ht hI hn fun h1 he => ⟨rfl, he⟩)) fun v h' ⟨r, hv, hr, hx⟩ => ⟨by rw [hv, hr], hx⟩

theorem contract (H : Type) (enc : TypeId × Value → H) (W : World) (base : Nat) (args : Array Value) (ds gs : List (DataW H)) (before : List MemPlace)
    (hval : ∀ (j : Nat) t v, Tryz.f8.params[j]? = some t → args[j]? = some v → Value.okWide Tryz.prog W .any base t v)
    (hW : DataW.Whole enc Tryz.prog Tryz.f8.params.toList Rows.vtChunksSpec.vars false W args.toList ds gs before) (hL : laidMetH Tryz.prog Rows.vtChunksUptoRow.laid W)
    (hk : Rows.uptoSmall H (ds ++ gs) = true) :
    Calls Tryz.prog 8 args W fun e W' => ∃ v, e = .returned v ∧ Rows.vtChunksSpec.post enc Tryz.prog Tryz.f8 false true false false W args v W' := by
  have hW' := hW
  obtain ⟨p, q, hA0, hV, rfl, hfz, hnd⟩ := hW
  have hA : DataW.TrodAll enc Tryz.prog W 0 (fun _ => true) true Tryz.f8.params.toList args.toList ds p := hA0
  rw [Tryz.params8] at hA hval
  obtain ⟨v0, vs0, d0, ds0, p0, q0, hargs, rfl, rfl, h0, r0⟩ := trodAll_cons hA
  obtain ⟨v1, vs1, d1, ds1, p1, q1, rfl, rfl, rfl, h1, r1⟩ := trodAll_cons r0
  obtain ⟨v2, vs2, d2, ds2, p2, q2, rfl, rfl, rfl, h2, r2⟩ := trodAll_cons r1
  obtain ⟨rfl, rfl, rfl⟩ := trodAll_nil r2
  obtain rfl : args = #[v0, v1, v2] := by cases args; simp_all
  obtain ⟨rfl, rfl⟩ := trodVars_none hV
  obtain ⟨x, y, z, rfl, rfl, rfl, wx, wy, wz⟩ := open_setup (hval 0 23 v0 rfl rfl) h0
  obtain ⟨s, rfl, rfl, rfl, hs⟩ := Go.ChangeMaps.open_string Tryz.underlying9 (hval 1 9 v1 rfl rfl) h1
  obtain ⟨a0, len, cap, rfl⟩ := okWide_slice Tryz.underlying54 (hval 2 54 v2 rfl rfl)
  have h2k := h2
  obtain ⟨fuel, hf⟩ := h2
  clear hA0
  simp only [List.append_nil, List.nil_append] at hW'
  have hlt : ∀ x ∈ p2, x.block < W.heap.size := fun x hx => by simpa using hW'.lt x hx
  obtain ⟨ks, hI, hb⟩ := open_ints hf
  have hbk := of_decide_eq_true hk
  simp only [List.append_nil, Rows.uptoBulkAll, Rows.uptoBulk] at hbk
  have hsz : s.size ≤ 1000000000 := by
    have : s.data.toList.length = s.size := rfl
    omega
  have hn : len ≤ 1000000000 := by omega
  refine (walk x y z s a0 len cap ks W (tabs_of (by kernel_rfl) hL (by simp [Rows.vtChunksUptoRow]) (by simp [Rows.vtChunksUptoRow]) (by simp [Rows.vtChunksUptoRow])) hsz hI hn).mono fun e W' ⟨he, hg, hB⟩ => ?_
  subst he
  exact ⟨_, rfl, post_kept (pa := p2) (pv := []) hg hW' (fun _ _ _ => trodAll_cons_mk (shut_bool Tryz.underlying4 _) trodAll_mk0)
    (fun sp hsp => by
      have := WideElems.Trod_stays laidOut (by kernel_rfl) (of_decide_eq_true (by kernel_rfl)) h2k (W' := W') (sp' := sp) (fun x hx => hB.same (hlt x hx)) (fun x hx => hsp x (by simpa using hx))
      have h := trodAll_cons_mk (shut_setup (enc := enc) (w := W') (base := 0) (sp := sp) (held := true) wx wy wz) (trodAll_cons_mk (Go.ChangeMaps.shut_string (enc := enc) (P := Tryz.prog) (w := W') (base := 0) (sp := sp) (held := true) Tryz.underlying9 hs) (trodAll_cons_mk this trodAll_mk0))
      simp only [List.append_nil, List.nil_append] at h
      exact h)
    (fun _ _ => rfl) (by simp)
    (ok_one (by kernel_rfl) rfl (okWide_bool_mk Tryz.underlying4 _))⟩

/-- A world for the witness: the settled one, the tables holding what their initialisers lay. -/
def cellsOfD : DataW Unit → List Value
  | .agg parts => parts.flatMap fun d => match d with
    | .lit (.int k n) => [.int k n]
    | .agg [.lit (.int k n), .lit (.int k' n')] => [.int k n, .int k' n']
    | .agg [.lit (.string s), .lit (.int k n), .lit (.int k' n'), .lit (.bool b)] => [.string ⟨s.toArray⟩, .int k n, .int k' n', .bool b]
    | _ => []
  | _ => []
noncomputable def laidHeap (h : Heap) : List (Nat × DataW Unit) → Heap
  | [] => h
  | (g, d) :: l => laidHeap (h.modify g fun
      | .cells _ t fr => .cells (cellsOfD d).toArray t fr
      | o => o) l
noncomputable def laidWorld (os : Os) : World :=
  { World.holding Tryz.prog os ⟨#[], #[], []⟩ with heap := laidHeap (World.holding Tryz.prog os ⟨#[], #[], []⟩).heap [(0, Rows.laid_unicode_utf8_first), (1, Rows.laid_unicode_utf8_acceptRanges), (3, Rows.laid_internal_strconv_uint64pow10), (4, Rows.laid_math_bits_deBruijn32tab), (5, Rows.laid_math_bits_deBruijn64tab)] }
theorem laid_met (os : Os) : laidMet Tryz.prog Rows.vtChunksUptoRow.laid ((laidWorld os).forCall (fun _ _ => 0) ⟨#[], #[.agg #[.int .i64 0, .int .i64 0, .int .i64 0], .string ⟨#[]⟩, .slice none 0 0], []⟩).memory :=
  laidMet_of_run' 8 (by kernel_rfl) (by kernel_rfl)
theorem reads (os : Os) {H : Type} (enc : TypeId × Value → H) : ∃ places, DataW.whole enc Tryz.prog ((laidWorld os).forCall (fun _ _ => 0) ⟨#[], #[.agg #[.int .i64 0, .int .i64 0, .int .i64 0], .string ⟨#[]⟩, .slice none 0 0], []⟩).memory Tryz.f8.params.toList Rows.vtChunksSpec.vars false #[Value.agg #[.int .i64 0, .int .i64 0, .int .i64 0], Value.string ⟨#[]⟩, Value.slice none 0 0].toList 8 = some ([.agg [.lit (.int .i64 0), .lit (.int .i64 0), .lit (.int .i64 0)], .lit (.string []), .nil], [], places) :=
  ⟨[], by kernel_rfl⟩

theorem liftedUpto (os : Os) (started : os.Started) (H : Type) (enc : TypeId × Value → H) (F : Stop.Interp) :
    ReturnsInHanded {} Tryz.checked os 8 .any ((Rows.OpenSpec.upto Rows.vtChunksSpec).preRow enc Tryz.prog Tryz.f8 Rows.vtChunksUptoRow.domain false Rows.vtChunksUptoRow.laid) (((Rows.OpenSpec.upto Rows.vtChunksSpec).at F).post enc Tryz.prog Tryz.f8 false true false false) := by
  obtain ⟨places, hx⟩ := reads os enc
  refine returnsInHanded_of_row (C := Tryz.checked) (s := Rows.OpenSpec.upto Rows.vtChunksSpec) own started (by kernel_rfl) Tryz.func8
    (witness_row_at (enc := enc) (C := Tryz.checked) false (laidWorld os) #[.agg #[.int .i64 0, .int .i64 0, .int .i64 0], .string ⟨#[]⟩, .slice none 0 0] rfl (by kernel_rfl) (by kernel_rfl) (by kernel_rfl)
      (OpenSpec.preRow_of_cond 8 hx (by kernel_rfl) (fun k hk => by cases hk; kernel_rfl) (by kernel_rfl) (laid_met os))) ?_
  intro W base args ds gs before hval hW _ hcond _ hL _ _
  exact contract H enc W base args ds gs before hval hW hL (hcond _ rfl)

theorem saidUpto : Rows.VtChunksUptoSaid :=
  OpenClaim.holds_of_cond 8 Tryz.f8 rfl rfl rfl rfl rfl rfl rfl ⟨rfl, rfl, rfl, rfl, rfl⟩ rfl rfl rfl rfl rfl (by kernel_rfl) Tryz.func8 (by kernel_rfl)
    (of_decide_eq_true (by kernel_rfl)) (by unfold Func.isWrapper; first | (rw [if_pos (by decide +kernel)]; kernel_rfl) | (rw [if_neg (by decide +kernel)]; exact ⟨rfl, rfl⟩))
    (fun os started H enc _ F => by rw [OpenClaim.pre_eq_preRow]; exact liftedUpto os started H enc F)

theorem plain (f : FuncId) (fn : Func) (hf : Tryz.pinned.checked.prog.funcNamed "mullion/mullionlaw19.VtChunks" = some f) (hfn : Tryz.pinned.checked.prog.funcs[f]? = some fn) :
    false = Tryz.pinned.checked.prog.looks [] ∧ ∀ (j : Nat) t, fn.params[j]? = some t → Tryz.pinned.checked.prog.wantsStandIn t = false := by
  obtain rfl : f = 8 := Option.some.inj ((show Tryz.prog.funcNamed "mullion/mullionlaw19.VtChunks" = some 8 by kernel_rfl).symm.trans hf) |>.symm
  obtain rfl : fn = Tryz.f8 := (Option.some.inj (Tryz.func8.symm.trans hfn)).symm
  refine ⟨by kernel_rfl, fun j t ht => ?_⟩
  rw [Tryz.params8] at ht
  have : t = 23 ∨ t = 9 ∨ t = 54 := by simpa using Array.mem_of_getElem? ht
  rcases this with rfl | rfl | rfl
  · exact (show Tryz.prog.wantsStandIn 23 = false by kernel_rfl)
  · exact (show Tryz.prog.wantsStandIn 9 = false by kernel_rfl)
  · exact (show Tryz.prog.wantsStandIn 54 = false by kernel_rfl)

/-- THE CARD OF THE SECOND FORM. -/
theorem cardUpto : Rows.VtChunksUptoCardSaid :=
  Claim7.holds_tied_plain_at .later [] _ _ _ _ saidUpto (fun _ h => by cases h) (by kernel_rfl) (fun _ h => by cases h) vtChunksUpto_row_tie rfl ⟨rfl, rfl⟩ (by kernel_rfl) rfl plain (by kernel_rfl)
end Go.Proofs.YthjdnhhifjpidaaGreatDoor.vtChunks
