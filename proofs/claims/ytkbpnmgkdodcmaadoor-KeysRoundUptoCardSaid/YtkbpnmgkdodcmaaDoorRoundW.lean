import Derived.Test.YtkbpnmgkdodcmaaDoorF4
import Derived.Test.YtkbpnmgkdodcmaaDoorW0
import Derived.Deep.Slices
set_option linter.unusedVariables false
set_option linter.unusedSimpArgs false
set_option maxRecDepth 100000
namespace Go.Proofs.YtkbpnmgkdodcmaaDoor.keysRound
open Go Go.Hp Go.ChangeShapes Go.WideShapes Go.ChangeAt Go.RowKit Go.Proofs.YtkbpnmgkdodcmaaDoor.M

theorem own : ownKnob Tryd.prog.godebug = none := by kernel_rfl
theorem laidOut : laidOutB Tryd.prog = true := by kernel_rfl
/-- A law that comes to true, out of its printed function; what was there is as it was. -/
theorem calls_below {f : FuncId} {args : Array Value} {W : World} {R : Value → Heap → Prop} (hc : CallsH Tryd.prog f args R W.heap) (hR : ∀ v h', R v h' → v = .bool true ∧ Ext W.heap h') :
    Calls Tryd.prog f args W fun e w' => e = .returned (.bool true) ∧ Grown W w' ∧ Below W.heap.size W w' :=
  (hc W rfl).mono fun e w' ⟨v, he, hr, hq⟩ => by
    obtain ⟨rfl, hx⟩ := hR v _ hq
    exact ⟨he, grown_of hr hx, ⟨hr.os, hr.tape, hr.output, hx.1, fun k hk => hx.2.1 k hk⟩⟩
theorem walk (a : Option Addr) (n c : Nat) (ks : List (Int × Int)) (app : Bool) (W : World) (hT : TabH W.heap) (hA : SlG W.heap a n ks) (hn : n ≤ 2000000) :
    Calls Tryd.prog 6 #[.slice a n c, .bool app] W fun e w' => e = .returned (.bool true) ∧ Grown W w' ∧ Below W.heap.size W w' :=
  calls_below (law21_KeysRound_ok a n c app (fun r h' => r = true ∧ Ext W.heap h') W.heap (round_sp hT hA hn fun h1 he => ⟨rfl, he⟩)) fun v h' ⟨r, hv, hr, hx⟩ => ⟨by rw [hv, hr], hx⟩
theorem bulk_pos {H : Type} (d : DataW H) : 1 ≤ Rows.uptoBulk d := by
  match d with
  | .lit (.string b) => simp [Rows.uptoBulk]
  | .lit (.int k n) => simp [Rows.uptoBulk]
  | .lit (.bool b) => simp [Rows.uptoBulk]
  | .nil => simp [Rows.uptoBulk]
  | .ptr d => simp [Rows.uptoBulk]
  | .slice e s => simp [Rows.uptoBulk]
  | .agg p => simp [Rows.uptoBulk]
  | .iface t d => simp [Rows.uptoBulk]
  | .map e => simp [Rows.uptoBulk]
  | .held h => simp [Rows.uptoBulk]
  | .lit x => cases x <;> simp [Rows.uptoBulk]
theorem bulk_len {H : Type} : ∀ l : List (DataW H), l.length ≤ Rows.uptoBulkAll l
  | [] => by simp [Rows.uptoBulkAll]
  | d :: l => by
    have h1 := bulk_pos d
    have h2 := bulk_len l
    simp only [Rows.uptoBulkAll, List.length_cons]
    omega
theorem open_keys {H : Type} {enc : TypeId × Value → H} {W : World} {base fuel : Nat} {sp : Nat → Bool} {held : Bool} {a0 : Option Addr} {len cap : Nat} {d0 : DataW H} {p0 : List MemPlace}
    (hf : DataW.trod enc Tryd.prog W base sp held fuel 27 (Value.cells (.slice a0 len cap)).toList = some (d0, p0)) :
    ∃ ks : List (Int × Int), SlG W.heap a0 len ks ∧ len ≤ Rows.uptoBulk d0 := by
  rcases Deep.open_slice Tryd.underlying27 hf with ⟨hcs, hx⟩ | ⟨a, len', cap', m, n, D, Pl, hcs, _, hl, hm, hmm, hx, hcell⟩
  · simp only [Value.cells, List.cons.injEq, Value.slice.injEq, and_true] at hcs
    obtain ⟨rfl, rfl, rfl⟩ := hcs
    exact ⟨[], ⟨rfl, fun i hi => by omega⟩, by omega⟩
  · simp only [Value.cells, List.cons.injEq, Value.slice.injEq, and_true] at hcs
    obtain ⟨rfl, rfl, rfl⟩ := hcs
    have hlm : len ≤ m := by rw [hmm]; split <;> omega
    have hc2 : Tryd.prog.cellsOf 36 = 2 := by kernel_rfl
    have e3 : Tryd.prog.cellsOf 3 = 1 := by kernel_rfl
    have each : ∀ i, i < len → ∃ k : Int × Int, W.cell? ((a.add (i * 2)).add 0) = some (.int .i64 k.1) ∧ W.cell? ((a.add (i * 2)).add 1) = some (.int .i64 k.2) := by
      intro i hi
      obtain ⟨cs', h1, h2⟩ := hcell i (by omega)
      rw [hc2] at h1
      obtain ⟨_, hlen, hg⟩ := World.cells?_some h1
      obtain ⟨xs, n', _, hx2, hl2, hxl, hfs⟩ := DataW.trod_struct Tryd.underlying36 h2
      obtain ⟨x0, x1, rfl⟩ : ∃ x0 x1, xs = [x0, x1] := by
        match xs, hxl with
        | [a, b], _ => exact ⟨a, b, rfl⟩
      have f0 : DataW.trod enc Tryd.prog W base sp held n' 3 ((cs'.drop 0).take (Tryd.prog.cellsOf 3)) = some x0 := hfs 0 _ rfl
      have f1 : DataW.trod enc Tryd.prog W base sp held n' 3 ((cs'.drop 1).take (Tryd.prog.cellsOf 3)) = some x1 := hfs 1 _ rfl
      rw [e3] at f0 f1
      obtain ⟨c, c0, y0, wc⟩ := DataW.trod_int Tryd.underlying3 f0
      obtain ⟨m', c1, y1, wm⟩ := DataW.trod_int Tryd.underlying3 f1
      exact ⟨(c, m'), by rw [hg 0 (by omega)]; exact one_of c0, by rw [hg 1 (by omega)]; exact one_of c1⟩
    obtain ⟨Kx, hK⟩ := Deep.choose_lt each
    refine ⟨(List.range len).map Kx, ⟨by simp, fun i hi => ⟨a, rfl, ?_, ?_⟩⟩, ?_⟩
    · have := (hK i hi).1
      rw [Deep.add_add, Nat.add_zero] at this
      rw [List.getD_eq_getElem?_getD, List.getElem?_map, List.getElem?_range hi]
      exact this
    · have := (hK i hi).2
      rw [List.getD_eq_getElem?_getD, List.getElem?_map, List.getElem?_range hi]
      exact this
    · obtain rfl : d0 = .slice ((List.range len).map D) ((List.range (m - len)).map fun j => D (len + j)) := congrArg Prod.fst hx
      have := bulk_len ((List.range len).map D)
      simp only [List.length_map, List.length_range] at this
      simp only [Rows.uptoBulk]
      omega

theorem contract (H : Type) (enc : TypeId × Value → H) (W : World) (base : Nat) (args : Array Value) (ds gs : List (DataW H)) (before : List MemPlace)
    (hval : ∀ (j : Nat) t v, Tryd.f6.params[j]? = some t → args[j]? = some v → Value.okWide Tryd.prog W .any base t v)
    (hW : DataW.Whole enc Tryd.prog Tryd.f6.params.toList Rows.keysRoundSpec.vars false W args.toList ds gs before) (hL : laidMetH Tryd.prog Rows.keysRoundUptoRow.laid W)
    (hk : Rows.uptoSmall H (ds ++ gs) = true) :
    Calls Tryd.prog 6 args W fun e W' => ∃ v, e = .returned v ∧ Rows.keysRoundSpec.post enc Tryd.prog Tryd.f6 false true false false W args v W' := by
  have hW' := hW
  obtain ⟨p, q, hA0, hV, rfl, hfz, hnd⟩ := hW
  have hA : DataW.TrodAll enc Tryd.prog W 0 (fun _ => true) true Tryd.f6.params.toList args.toList ds p := hA0
  rw [Tryd.params6] at hA hval
  obtain ⟨v0, vs0, d0, ds0, p0, q0, hargs, rfl, rfl, h0, r0⟩ := trodAll_cons hA
  obtain ⟨v1, vs1, d1, ds1, p1, q1, rfl, rfl, rfl, h1, r1⟩ := trodAll_cons r0
  obtain ⟨rfl, rfl, rfl⟩ := trodAll_nil r1
  obtain rfl : args = #[v0, v1] := by cases args; simp_all
  obtain ⟨rfl, rfl⟩ := trodVars_none hV
  obtain ⟨a0, len, cap, rfl⟩ := okWide_slice Tryd.underlying27 (hval 0 27 v0 rfl rfl)
  obtain ⟨app, rfl, rfl, rfl⟩ := open_bool Tryd.underlying4 (hval 1 4 v1 rfl rfl) h1
  have h0k := h0
  obtain ⟨fuel, hf⟩ := h0
  clear hA0
  simp only [List.append_nil] at hW'
  have hlt : ∀ x ∈ p0, x.block < W.heap.size := fun x hx => by simpa using hW'.lt x hx
  have hT := tabH_of (by kernel_rfl) hL (by simp [Rows.keysRoundUptoRow])
  obtain ⟨ks, hA, hb⟩ := open_keys hf
  have hn : len ≤ 2000000 := by
    have hb2 := of_decide_eq_true hk
    simp only [List.append_nil, Rows.uptoBulkAll] at hb2
    omega
  refine (walk a0 len cap ks app W hT hA hn).mono fun e W' ⟨he, hg, hB⟩ => ?_
  subst he
  exact ⟨_, rfl, post_of_same (pa := p0) (pv := []) hW' (fun _ _ _ => trodAll_cons_mk (shut_bool Tryd.underlying4 _) trodAll_mk0)
    (fun sp hsp => by
      have := WideElems.Trod_stays laidOut (by kernel_rfl) (of_decide_eq_true (by kernel_rfl)) h0k (W' := W') (sp' := sp) (fun x hx => hB.same (hlt x hx)) (fun x hx => hsp x (by simpa using hx))
      have h := trodAll_cons_mk this (trodAll_cons_mk (shut_bool (enc := enc) (P := Tryd.prog) (w := W') (base := 0) (spare := sp) (held := true) Tryd.underlying4 app) trodAll_mk0)
      simp only [List.append_nil] at h
      exact h)
    (fun _ _ => rfl) (by simp)
    (hg.frame _) hg.2.1 (ok_one (by kernel_rfl) rfl (okWide_bool_mk Tryd.underlying4 _))⟩

/-- A world for the witness: the settled one, the tables holding what their initialisers lay. -/
def cellsOfD : DataW Unit → List Value
  | .agg parts => parts.flatMap fun d => match d with
    | .lit (.int k n) => [.int k n]
    | .agg [.lit (.string s), .lit (.int k n), .lit (.int k' n'), .lit (.bool b)] => [.string ⟨s.toArray⟩, .int k n, .int k' n', .bool b]
    | _ => []
  | _ => []
noncomputable def laidHeap (h : Heap) : List (Nat × DataW Unit) → Heap
  | [] => h
  | (g, d) :: l => laidHeap (h.modify g fun
      | .cells _ t fr => .cells (cellsOfD d).toArray t fr
      | o => o) l
noncomputable def laidWorld (os : Os) : World :=
  { World.holding Tryd.prog os ⟨#[], #[], []⟩ with heap := laidHeap (World.holding Tryd.prog os ⟨#[], #[], []⟩).heap [(0, Rows.laid_mullion_keys_shapes), (3, Rows.laid_internal_strconv_uint64pow10), (4, Rows.laid_math_bits_deBruijn32tab), (5, Rows.laid_math_bits_deBruijn64tab)] }
theorem laid_met (os : Os) : laidMet Tryd.prog Rows.keysRoundUptoRow.laid ((laidWorld os).forCall (fun _ _ => 0) ⟨#[], #[.slice none 0 0, .bool false], []⟩).memory :=
  laidMet_of_run' 8 (by kernel_rfl) (by kernel_rfl)
theorem reads (os : Os) {H : Type} (enc : TypeId × Value → H) : ∃ places, DataW.whole enc Tryd.prog ((laidWorld os).forCall (fun _ _ => 0) ⟨#[], #[.slice none 0 0, .bool false], []⟩).memory Tryd.f6.params.toList Rows.keysRoundSpec.vars false #[Value.slice none 0 0, Value.bool false].toList 8 = some ([.nil, .lit (.bool false)], [], places) :=
  ⟨[], by kernel_rfl⟩

theorem liftedUpto (os : Os) (started : os.Started) (H : Type) (enc : TypeId × Value → H) (F : Stop.Interp) :
    ReturnsInHanded {} Tryd.checked os 6 .any ((Rows.OpenSpec.upto Rows.keysRoundSpec).preRow enc Tryd.prog Tryd.f6 Rows.keysRoundUptoRow.domain false Rows.keysRoundUptoRow.laid) (((Rows.OpenSpec.upto Rows.keysRoundSpec).at F).post enc Tryd.prog Tryd.f6 false true false false) := by
  obtain ⟨places, hx⟩ := reads os enc
  refine returnsInHanded_of_row (C := Tryd.checked) (s := Rows.OpenSpec.upto Rows.keysRoundSpec) own started (by kernel_rfl) Tryd.func6
    (witness_row_at (enc := enc) (C := Tryd.checked) false (laidWorld os) #[.slice none 0 0, .bool false] rfl (by kernel_rfl) (by kernel_rfl) (by kernel_rfl)
      (OpenSpec.preRow_of_cond 8 hx (by kernel_rfl) (fun k hk => by cases hk; kernel_rfl) (by kernel_rfl) (laid_met os))) ?_
  intro W base args ds gs before hval hW _ hcond _ hL _ _
  exact contract H enc W base args ds gs before hval hW hL (hcond _ rfl)

theorem saidUpto : Rows.KeysRoundUptoSaid :=
  OpenClaim.holds_of_cond 6 Tryd.f6 rfl rfl rfl rfl rfl rfl rfl ⟨rfl, rfl, rfl, rfl, rfl⟩ rfl rfl rfl rfl rfl (by kernel_rfl) Tryd.func6 (by kernel_rfl)
    (of_decide_eq_true (by kernel_rfl)) (by unfold Func.isWrapper; first | (rw [if_pos (by decide +kernel)]; kernel_rfl) | (rw [if_neg (by decide +kernel)]; exact ⟨rfl, rfl⟩))
    (fun os started H enc _ F => by rw [OpenClaim.pre_eq_preRow]; exact liftedUpto os started H enc F)

theorem plain (f : FuncId) (fn : Func) (hf : Tryd.pinned.checked.prog.funcNamed "mullion/mullionlaw21.KeysRound" = some f) (hfn : Tryd.pinned.checked.prog.funcs[f]? = some fn) :
    false = Tryd.pinned.checked.prog.looks [] ∧ ∀ (j : Nat) t, fn.params[j]? = some t → Tryd.pinned.checked.prog.wantsStandIn t = false := by
  obtain rfl : f = 6 := Option.some.inj ((show Tryd.prog.funcNamed "mullion/mullionlaw21.KeysRound" = some 6 by kernel_rfl).symm.trans hf) |>.symm
  obtain rfl : fn = Tryd.f6 := (Option.some.inj (Tryd.func6.symm.trans hfn)).symm
  refine ⟨by kernel_rfl, fun j t ht => ?_⟩
  rw [Tryd.params6] at ht
  have : t = 27 ∨ t = 4 := by simpa using Array.mem_of_getElem? ht
  rcases this with rfl | rfl
  · exact (show Tryd.prog.wantsStandIn 27 = false by kernel_rfl)
  · exact (show Tryd.prog.wantsStandIn 4 = false by kernel_rfl)

/-- THE CARD OF THE SECOND FORM. -/
theorem cardUpto : Rows.KeysRoundUptoCardSaid :=
  Claim7.holds_tied_plain_at .later [] _ _ _ _ saidUpto (fun _ h => by cases h) (by kernel_rfl) (fun _ h => by cases h) keysRoundUpto_row_tie rfl ⟨rfl, rfl⟩ (by kernel_rfl) rfl plain (by kernel_rfl)
end Go.Proofs.YtkbpnmgkdodcmaaDoor.keysRound
