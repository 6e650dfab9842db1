import Derived.Test.YtkbpnmgkdodcmaaDoorG5
import Derived.Test.YtkbpnmgkdodcmaaDoorW0
set_option linter.unusedVariables false
set_option linter.unusedSimpArgs false
set_option maxRecDepth 100000
namespace Go.Proofs.YtkbpnmgkdodcmaaDoor.M
open Go Go.Hp Go.ChangeShapes Go.WideShapes Go.ChangeAt Go.RowKit

/-! ### What the row lays: utf8's two tables -/
def rowA {H : Type} (r : Int × Int) : DataW H := .agg [.lit (.int .u8 r.1), .lit (.int .u8 r.2)]
theorem laid_acc {H : Type} : (Rows.laid_unicode_utf8_acceptRanges : DataW H) = .agg (tab2.map rowA) := by kernel_rfl
theorem laid_first : Rows.laid_unicode_utf8_first = Lib.tabData .u8 (Go.Pinned.utf8FirstZ.map fun n : Nat => (n : Int)) := by kernel_rfl
theorem rowA_cells {enc : TypeId × Value → Unit} {w : World} {base : Nat} {sp : Nat → Bool} {held : Bool} {fuel : Nat} {cs : List Value} {r : Int × Int} {p}
    (h : DataW.trod enc Tryd.prog w base sp held fuel 83 cs = some (rowA r, p)) : cs = tab2f r := by
  obtain ⟨xs, n, rfl, hx, hl, hxl, hf⟩ := DataW.trod_struct Tryd.underlying83 h
  have hc : Tryd.prog.cellsOf 83 = 2 := by kernel_rfl
  rw [hc] at hl
  obtain ⟨x0, x1, rfl⟩ : ∃ x0 x1, xs = [x0, x1] := by
    match xs, hxl with
    | [a, b], _ => exact ⟨a, b, rfl⟩
  have hd := congrArg Prod.fst hx
  simp only [rowA, List.map_cons, List.map_nil, DataW.agg.injEq, List.cons.injEq, and_true] at hd
  have e5 : Tryd.prog.cellsOf 5 = 1 := by kernel_rfl
  have f0 : DataW.trod enc Tryd.prog w base sp held n 5 ((cs.drop 0).take (Tryd.prog.cellsOf 5)) = some x0 := hf 0 _ rfl
  have f1 : DataW.trod enc Tryd.prog w base sp held n 5 ((cs.drop 1).take (Tryd.prog.cellsOf 5)) = some x1 := hf 1 _ rfl
  rw [e5] at f0 f1
  obtain ⟨a, c0, y0, _⟩ := DataW.trod_int Tryd.underlying5 f0
  obtain ⟨b, c1, y1, _⟩ := DataW.trod_int Tryd.underlying5 f1
  subst y0 y1
  simp only [DataW.lit.injEq, Lit.int.injEq, true_and] at hd
  obtain ⟨h1, h2⟩ := hd
  match cs, hl with
  | [v0, v1], _ =>
    have g0 := one_of c0
    have g1 := one_of c1
    simp at g0 g1
    simp [tab2f, g0, g1, h1, h2]
theorem tabA_cells {enc : TypeId × Value → Unit} {w : World} {base : Nat} {sp : Nat → Bool} {held : Bool} {fuel : Nat} {cs : List Value} {p} (h : DataW.trod enc Tryd.prog w base sp held fuel 84 cs = some (.agg (tab2.map rowA), p)) : cs = tab2.flatMap tab2f := by
  have hc : Tryd.prog.cellsOf 83 = 2 := by kernel_rfl
  have hct : Tryd.prog.cellsOf 84 = 32 := by kernel_rfl
  cases fuel with
  | zero => simp [DataW.trod] at h
  | succ fuel =>
    simp only [DataW.trod, Tryd.underlying84, hc, hct] at h
    split at h
    · rename_i hl
      obtain ⟨xs, hm, hx⟩ := Option.map_eq_some_iff.1 h
      have hxs : xs.map (·.1) = tab2.map (rowA (H := Unit)) := by
        have := congrArg Prod.fst hx
        simpa using this
      have hlen : (tab2.flatMap tab2f).length = 32 := by kernel_rfl
      have ht : tab2.length = 16 := by kernel_rfl
      apply List.ext_getElem?
      intro i
      by_cases hi : i < 32
      · obtain ⟨b, hb, hf⟩ := Lib.mapM_at hm (i / 2) (i / 2) (by rw [List.getElem?_range (by omega)])
        have hb2 : (xs.map (·.1))[i / 2]? = some b.1 := by simp [hb]
        rw [hxs] at hb2
        simp only [List.getElem?_map, Option.map_eq_some_iff] at hb2
        obtain ⟨r, hr, hrb⟩ := hb2
        have hrow := rowA_cells (r := r) (p := b.2) (by rw [hrb]; exact hf)
        have hg : tab2.getD (i / 2) tab2d = r := by rw [List.getD_eq_getElem?_getD, hr]; rfl
        have hflat := flat_at tab2f tab2d (sz := 2) (fun _ => rfl) tab2 (i / 2) (by omega)
        rw [hg, ← hrow] at hflat
        have := congrArg (·[i % 2]?) hflat
        simp only [List.getElem?_take, List.getElem?_drop, if_pos (show i % 2 < 2 by omega), show i / 2 * 2 + i % 2 = i by omega] at this
        exact this.symm
      · rw [List.getElem?_eq_none (by omega), List.getElem?_eq_none (by omega)]
    · cases h
theorem laid_get {W : World} {l : List (String × DataW Unit)} {name : String} {d : DataW Unit} {g : Nat} {t : TypeId} {R : List Value → Prop} (hp : (l.all fun x => x.2.handleName?.isNone) = true) (h : laidMetH Tryd.prog l W) (hm : (name, d) ∈ l)
    (hgn : Tryd.prog.globalNamed name = some g) (hty : (Tryd.prog.globals[g]?).map (·.type) = some t)
    (hR : ∀ (enc : TypeId × Value → Unit) (w : World) (base : Nat) (sp : Nat → Bool) (held : Bool) (fuel : Nat) (cs : List Value) p, DataW.trod enc Tryd.prog w base sp held fuel t cs = some (d, p) → R cs) :
    ∃ cs : List Value, R cs ∧ ∀ i v, cs[i]? = some v → cellH W.heap ⟨g, i, none⟩ = some v := by
  rw [MakeChecks.laidMetH_plain _ _ _ hp] at h
  obtain ⟨ps, hl, hz1, hz2⟩ := h
  clear hp hz1 hz2
  induction l generalizing ps with
  | nil => cases hm
  | cons x l ih =>
    obtain ⟨n, d'⟩ := x
    obtain ⟨g', t', cs, fuel, p, q, hg, ht, hvar, hd, hrest, _⟩ := hl
    rcases List.mem_cons.1 hm with hm | hm
    · obtain ⟨rfl, rfl⟩ := Prod.mk.inj hm
      obtain rfl := Option.some.inj (hgn.symm.trans hg)
      obtain rfl := Option.some.inj (hty.symm.trans ht)
      refine ⟨_, hR _ _ _ _ _ _ _ _ hd, fun i v hv => ?_⟩
      have := World.var?_cell hg hvar i
      show W.cell? ⟨g, i, none⟩ = some v
      rw [this, ← Array.getElem?_toList]
      exact hv
    · exact ih hm _ hrest
theorem accH_of {W : World} {l : List (String × DataW Unit)} (hp : (l.all fun x => x.2.handleName?.isNone) = true) (h : laidMetH Tryd.prog l W) (hm : ("unicode/utf8.acceptRanges", Rows.laid_unicode_utf8_acceptRanges) ∈ l) : AccH W.heap := by
  obtain ⟨cs, rfl, hc⟩ := laid_get (g := 2) (t := 84) (R := fun cs => cs = tab2.flatMap tab2f) hp h hm (by kernel_rfl) (by kernel_rfl) (fun enc w base sp held fuel cs p hd => by rw [laid_acc] at hd; exact tabA_cells hd)
  exact cellsAt_of_get _ 0 fun i v hv => by rw [Nat.zero_add]; exact hc i v hv
theorem firstH_of {W : World} {l : List (String × DataW Unit)} (hp : (l.all fun x => x.2.handleName?.isNone) = true) (h : laidMetH Tryd.prog l W) (hm : ("unicode/utf8.first", Rows.laid_unicode_utf8_first) ∈ l) : FirstH W.heap := by
  obtain ⟨cs, rfl, hc⟩ := laid_get (g := 1) (t := 80) (R := fun cs => cs = (Go.Pinned.utf8FirstZ.map fun n : Nat => (n : Int)).map fun z => Value.int .u8 z) hp h hm (by kernel_rfl) (by kernel_rfl) (fun enc w base sp held fuel cs p hd => by rw [laid_first] at hd; exact Lib.cells_of_tab (n := 256) (e := 5) Tryd.underlying80 Tryd.underlying5 (by kernel_rfl) (by kernel_rfl) hd)
  intro b hb
  have hl : Go.Pinned.utf8FirstZ.length = 256 := by decide +kernel
  have := hc b (.int .u8 (firstT b)) (by
    unfold firstT
    rw [List.getElem?_map, List.getElem?_map, List.getElem?_eq_getElem (by omega), List.getD_eq_getElem?_getD, List.getElem?_eq_getElem (by omega)]
    rfl)
  rw [add0, Nat.zero_add]
  exact this
end Go.Proofs.YtkbpnmgkdodcmaaDoor.M
