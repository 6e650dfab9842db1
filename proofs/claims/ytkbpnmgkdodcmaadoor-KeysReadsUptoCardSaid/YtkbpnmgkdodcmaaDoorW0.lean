import Derived.Test.YtkbpnmgkdodcmaaDoorB5
import Derived.Test.YtkbpnmgkdodcmaaDoorCards
import Derived.Test.YtkbpnmgkdodcmaaDoorTie
import Derived.WalkKit
import Derived.ProofKit
import Derived.OpenShut
import Derived.Deep.DeepHandedRow
import Derived.Lib.LaidTab
set_option linter.unusedVariables false
set_option linter.unusedSimpArgs false
set_option maxRecDepth 100000
namespace Go.Proofs.YtkbpnmgkdodcmaaDoor.M
open Go Go.Hp Go.ChangeShapes Go.WideShapes Go.ChangeAt Go.RowKit

def rowD {H : Type} (r : ByteArray × Int × Int × Bool) : DataW H := .agg [.lit (.string r.1.data.toList), .lit (.int .u8 r.2.1), .lit (.int .i64 r.2.2.1), .lit (.bool r.2.2.2)]
theorem laid_shapes {H : Type} : (Rows.laid_mullion_keys_shapes : DataW H) = .agg (tab0.map rowD) := by kernel_rfl
theorem one_of {cs : List Value} {i : Nat} {v : Value} (h : (cs.drop i).take 1 = [v]) : cs[i]? = some v := by
  have := congrArg (·[0]?) h
  simpa [List.getElem?_take, List.getElem?_drop] using this
theorem row_cells {enc : TypeId × Value → Unit} {w : World} {base : Nat} {sp : Nat → Bool} {held : Bool} {fuel : Nat} {cs : List Value} {r : ByteArray × Int × Int × Bool} {p}
    (h : DataW.trod enc Tryd.prog w base sp held fuel 68 cs = some (rowD r, p)) : cs = tab0f r := by
  obtain ⟨xs, n, rfl, hx, hl, hxl, hf⟩ := DataW.trod_struct Tryd.underlying68 h
  have hc : Tryd.prog.cellsOf 68 = 4 := by kernel_rfl
  rw [hc] at hl
  obtain ⟨x0, x1, x2, x3, rfl⟩ : ∃ x0 x1 x2 x3, xs = [x0, x1, x2, x3] := by
    match xs, hxl with
    | [a, b, c, d], _ => exact ⟨a, b, c, d, rfl⟩
  have hd := congrArg Prod.fst hx
  simp only [rowD, List.map_cons, List.map_nil, DataW.agg.injEq, List.cons.injEq, and_true] at hd
  have e9 : Tryd.prog.cellsOf 9 = 1 := by kernel_rfl
  have e5 : Tryd.prog.cellsOf 5 = 1 := by kernel_rfl
  have e3 : Tryd.prog.cellsOf 3 = 1 := by kernel_rfl
  have e4 : Tryd.prog.cellsOf 4 = 1 := by kernel_rfl
  have f0 : DataW.trod enc Tryd.prog w base sp held n 9 ((cs.drop 0).take (Tryd.prog.cellsOf 9)) = some x0 := hf 0 _ rfl
  have f1 : DataW.trod enc Tryd.prog w base sp held n 5 ((cs.drop 1).take (Tryd.prog.cellsOf 5)) = some x1 := hf 1 _ rfl
  have f2 : DataW.trod enc Tryd.prog w base sp held n 3 ((cs.drop 2).take (Tryd.prog.cellsOf 3)) = some x2 := hf 2 _ rfl
  have f3 : DataW.trod enc Tryd.prog w base sp held n 4 ((cs.drop 3).take (Tryd.prog.cellsOf 4)) = some x3 := hf 3 _ rfl
  rw [e9] at f0
  rw [e5] at f1
  rw [e3] at f2
  rw [e4] at f3
  obtain ⟨s, c0, y0, _⟩ := DataW.trod_string Tryd.underlying9 f0
  obtain ⟨a, c1, y1, _⟩ := DataW.trod_int Tryd.underlying5 f1
  obtain ⟨b, c2, y2, _⟩ := DataW.trod_int Tryd.underlying3 f2
  obtain ⟨q, c3, y3⟩ := DataW.trod_bool Tryd.underlying4 f3
  subst y0 y1 y2 y3
  simp only [DataW.lit.injEq, Lit.string.injEq, Lit.int.injEq, Lit.bool.injEq, true_and] at hd
  obtain ⟨h1, h2, h3, h4⟩ := hd
  have hs : s = r.1 := by
    apply ByteArray.ext
    apply Array.ext'
    exact h1.symm
  match cs, hl with
  | [v0, v1, v2, v3], _ =>
    have g0 := one_of c0
    have g1 := one_of c1
    have g2 := one_of c2
    have g3 := one_of c3
    simp at g0 g1 g2 g3
    simp [tab0f, g0, g1, g2, g3, hs, h2, h3, h4]
theorem tab_cells {enc : TypeId × Value → Unit} {w : World} {base : Nat} {sp : Nat → Bool} {held : Bool} {fuel : Nat} {cs : List Value} {p} (h : DataW.trod enc Tryd.prog w base sp held fuel 69 cs = some (.agg (tab0.map rowD), p)) : cs = tab0.flatMap tab0f := by
  have hc : Tryd.prog.cellsOf 68 = 4 := by kernel_rfl
  have hct : Tryd.prog.cellsOf 69 = 88 := by kernel_rfl
  cases fuel with
  | zero => simp [DataW.trod] at h
  | succ fuel =>
    simp only [DataW.trod, Tryd.underlying69, hc, hct] at h
    split at h
    · rename_i hl
      obtain ⟨xs, hm, hx⟩ := Option.map_eq_some_iff.1 h
      have hxs : xs.map (·.1) = tab0.map (rowD (H := Unit)) := by
        have := congrArg Prod.fst hx
        simpa using this
      have hlen : (tab0.flatMap tab0f).length = 88 := by kernel_rfl
      have ht : tab0.length = 22 := by kernel_rfl
      apply List.ext_getElem?
      intro i
      by_cases hi : i < 88
      · obtain ⟨b, hb, hf⟩ := Lib.mapM_at hm (i / 4) (i / 4) (by rw [List.getElem?_range (by omega)])
        have hb2 : (xs.map (·.1))[i / 4]? = some b.1 := by simp [hb]
        rw [hxs] at hb2
        simp only [List.getElem?_map, Option.map_eq_some_iff] at hb2
        obtain ⟨r, hr, hrb⟩ := hb2
        have hrow := row_cells (r := r) (p := b.2) (by rw [hrb]; exact hf)
        have hg : tab0.getD (i / 4) tab0d = r := by rw [List.getD_eq_getElem?_getD, hr]; rfl
        have hflat := flat_at tab0f tab0d (sz := 4) (fun _ => rfl) tab0 (i / 4) (by omega)
        rw [hg, ← hrow] at hflat
        have := congrArg (·[i % 4]?) hflat
        simp only [List.getElem?_take, List.getElem?_drop, if_pos (show i % 4 < 4 by omega), show i / 4 * 4 + i % 4 = i by omega] at this
        exact this.symm
      · rw [List.getElem?_eq_none (by omega), List.getElem?_eq_none (by omega)]
    · cases h
theorem cellsAt_of_get {h : Heap} {g : Nat} : ∀ (vs : List Value) (k : Nat), (∀ i v, vs[i]? = some v → cellH h ⟨g, k + i, none⟩ = some v) → cellsAt h ⟨g, 0, none⟩ k vs
  | [], _, _ => trivial
  | v :: vs, k, hv => ⟨by rw [add0]; simpa using hv 0 v (by simp), cellsAt_of_get vs (k + 1) fun i w hw => by
      have := hv (i + 1) w (by simpa using hw)
      rwa [show k + (i + 1) = k + 1 + i by omega] at this⟩
/-- What the row gives: the table's cells. -/
theorem tabH_of {W : World} {l : List (String × DataW Unit)} (hp : (l.all fun x => x.2.handleName?.isNone) = true) (h : laidMetH Tryd.prog l W) (hm : ("mullion/keys.shapes", Rows.laid_mullion_keys_shapes) ∈ l) : TabH W.heap := by
  rw [MakeChecks.laidMetH_plain _ _ _ hp] at h
  obtain ⟨ps, hl, hz1, hz2⟩ := h
  clear hp hz1 hz2
  induction l generalizing ps with
  | nil => cases hm
  | cons x l ih =>
    obtain ⟨n, d⟩ := x
    obtain ⟨g, t, cs, fuel, p, q, hg, ht, hvar, hd, hrest, _⟩ := hl
    rcases List.mem_cons.1 hm with hm | hm
    · obtain ⟨rfl, rfl⟩ := Prod.mk.inj hm
      obtain rfl := Option.some.inj ((show Tryd.prog.globalNamed "mullion/keys.shapes" = some 0 by kernel_rfl).symm.trans hg)
      obtain rfl := Option.some.inj ((show (Tryd.prog.globals[0]?).map (·.type) = some 69 by kernel_rfl).symm.trans ht)
      rw [laid_shapes] at hd
      have hc := tab_cells hd
      refine cellsAt_of_get _ 0 fun i v hv => ?_
      have := World.var?_cell hg hvar i
      rw [Nat.zero_add]
      show W.cell? ⟨0, i, none⟩ = some v
      rw [this, ← Array.getElem?_toList, hc]
      exact hv
    · exact ih hm _ hrest

/-- From memory that grew to the kit's word for it. -/
theorem grown_of {w w' : World} (hr : Go.Hp.Rest w w') (he : Ext w.heap w'.heap) : Grown w w' := by
  refine ⟨⟨hr.os, hr.output, fun i hi => ?_⟩, fun a => ?_, he.1⟩
  · rw [he.2.1 i hi]
    cases w.heap[i]? with
    | none => rfl
    | some o => cases o <;> first | exact ⟨rfl, rfl, rfl, fun _ _ => rfl⟩ | exact .inr ⟨rfl, rfl⟩ | rfl
  · unfold World.frozen?
    rcases Nat.lt_or_ge a.block w.heap.size with hl | hl
    · rw [he.2.1 _ hl]
    · rw [Array.getElem?_eq_none (xs := w.heap) hl]
      cases hc : w'.heap[a.block]? with
      | none => rfl
      | some o =>
        cases o with
        | cells c t fr =>
          obtain rfl := he.2.2 _ c t fr hl hc
          simp
        | _ => rfl
/-- A law that comes to true, out of its printed function. -/
theorem calls_of {f : FuncId} {args : Array Value} {W : World} {R : Value → Heap → Prop} (hc : CallsH Tryd.prog f args R W.heap) (hR : ∀ v h', R v h' → v = .bool true ∧ Ext W.heap h') :
    Calls Tryd.prog f args W fun e w' => e = .returned (.bool true) ∧ Grown W w' :=
  (hc W rfl).mono fun e w' ⟨v, he, hr, hq⟩ => by
    obtain ⟨rfl, hx⟩ := hR v _ hq
    exact ⟨he, grown_of hr hx⟩
/-! ### A key as an argument -/
theorem open_key {H : Type} {enc : TypeId × Value → H} {w : World} {base : Nat} {sp : Nat → Bool} {held : Bool} {r : Reach} {b0 : Nat} {v : Value} {d : DataW H} {ps : List MemPlace} (hval : Value.okWide Tryd.prog w r b0 36 v) (hd : DataW.Trod enc Tryd.prog w base sp held 36 v d ps) :
    ∃ c m, v = .agg #[.int .i64 c, .int .i64 m] ∧ d = .agg [.lit (.int .i64 c), .lit (.int .i64 m)] ∧ ps = [] ∧ (Lit.int .i64 c).wf = true ∧ (Lit.int .i64 m).wf = true := by
  obtain ⟨cs, rfl, hsz⟩ := okWide_struct Tryd.underlying36 hval
  obtain ⟨fuel, hf⟩ := hd
  obtain ⟨xs, n, rfl, hx, hl, hxl, hfs⟩ := DataW.trod_struct Tryd.underlying36 hf
  have hc : Tryd.prog.cellsOf 36 = 2 := by kernel_rfl
  have e3 : Tryd.prog.cellsOf 3 = 1 := by kernel_rfl
  rw [hc] at hsz
  obtain ⟨x0, x1, rfl⟩ : ∃ x0 x1, xs = [x0, x1] := by
    match xs, hxl with
    | [a, b], _ => exact ⟨a, b, rfl⟩
  have f0 : DataW.trod enc Tryd.prog w base sp held n 3 ((cs.toList.drop 0).take (Tryd.prog.cellsOf 3)) = some x0 := hfs 0 _ rfl
  have f1 : DataW.trod enc Tryd.prog w base sp held n 3 ((cs.toList.drop 1).take (Tryd.prog.cellsOf 3)) = some x1 := hfs 1 _ rfl
  rw [e3] at f0 f1
  obtain ⟨c, c0, y0, wc⟩ := DataW.trod_int Tryd.underlying3 f0
  obtain ⟨m, c1, y1, wm⟩ := DataW.trod_int Tryd.underlying3 f1
  subst y0 y1
  have g0 := one_of c0
  have g1 := one_of c1
  simp only [List.map_cons, List.map_nil, List.flatMap_cons, List.flatMap_nil, List.append_nil, Prod.mk.injEq] at hx
  refine ⟨c, m, ?_, hx.1, hx.2, wc, wm⟩
  congr 1
  apply Array.ext_getElem?
  intro i
  rw [Array.getElem?_toList] at g0 g1
  match i with
  | 0 => exact g0
  | 1 => exact g1
  | i + 2 => rw [Array.getElem?_eq_none (by omega), Array.getElem?_eq_none (by simp)]
theorem shut_key {H : Type} {enc : TypeId × Value → H} {w : World} {base : Nat} {sp : Nat → Bool} {held : Bool} {c m : Int} (wc : (Lit.int .i64 c).wf = true) (wm : (Lit.int .i64 m).wf = true) :
    DataW.Trod enc Tryd.prog w base sp held 36 (.agg #[.int .i64 c, .int .i64 m]) (.agg [.lit (.int .i64 c), .lit (.int .i64 m)]) [] := by
  have hc : Tryd.prog.cellsOf 36 = 2 := by kernel_rfl
  have e3 : Tryd.prog.cellsOf 3 = 1 := by kernel_rfl
  refine ⟨2, ?_⟩
  simp only [DataW.trod, Tryd.underlying36, Value.cells, hc]
  simp [DataW.trod, Tryd.underlying3, e3, wc, wm]
end Go.Proofs.YtkbpnmgkdodcmaaDoor.M
