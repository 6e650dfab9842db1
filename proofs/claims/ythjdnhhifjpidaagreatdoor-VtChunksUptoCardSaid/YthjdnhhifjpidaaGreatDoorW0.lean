import Derived.Test.YthjdnhhifjpidaaGreatDoorYA
import Derived.Test.YthjdnhhifjpidaaGreatDoorCards
import Derived.Test.YthjdnhhifjpidaaGreatDoorTie
import Derived.WalkKit
import Derived.ProofKit
import Derived.OpenShut
import Derived.Deep.DeepHandedRow
import Derived.Lib.LaidTab
import Derived.ChangeMaps5
import Derived.Deep.Slices
set_option linter.unusedVariables false
set_option linter.unusedSimpArgs false
set_option maxRecDepth 100000
namespace Go.Proofs.YthjdnhhifjpidaaGreatDoor.M
open Go Go.Hp Go.ChangeShapes Go.WideShapes Go.ChangeAt Go.RowKit

/-! ### What the row lays: the library's tables -/
theorem one_of {cs : List Value} {i : Nat} {v : Value} (h : (cs.drop i).take 1 = [v]) : cs[i]? = some v := by
  have := congrArg (·[0]?) h
  simpa [List.getElem?_take, List.getElem?_drop] using this
theorem cellsAt_of_get {h : Heap} {g : Nat} : ∀ (vs : List Value) (k : Nat), (∀ i v, vs[i]? = some v → cellH h ⟨g, k + i, none⟩ = some v) → cellsAt h ⟨g, 0, none⟩ k vs
  | [], _, _ => trivial
  | v :: vs, k, hv => ⟨by rw [add0]; simpa using hv 0 v (by simp), cellsAt_of_get vs (k + 1) fun i w hw => by
      have := hv (i + 1) w (by simpa using hw)
      rwa [show k + (i + 1) = k + 1 + i by omega] at this⟩
def rowA {H : Type} (r : Int × Int) : DataW H := .agg [.lit (.int .u8 r.1), .lit (.int .u8 r.2)]
theorem laid_acc {H : Type} : (Rows.laid_unicode_utf8_acceptRanges : DataW H) = .agg (tab1.map rowA) := by kernel_rfl
theorem laid_pow : (Rows.laid_internal_strconv_uint64pow10 : DataW Unit) = Lib.tabData .u64 Lib.pow10Tab := by kernel_rfl
theorem laid_first : Rows.laid_unicode_utf8_first = Lib.tabData .u8 (Go.Pinned.utf8FirstZ.map fun n : Nat => (n : Int)) := by kernel_rfl
theorem rowA_cells {enc : TypeId × Value → Unit} {w : World} {base : Nat} {sp : Nat → Bool} {held : Bool} {fuel : Nat} {cs : List Value} {r : Int × Int} {p}
    (h : DataW.trod enc Tryz.prog w base sp held fuel 162 cs = some (rowA r, p)) : cs = tab1f r := by
  obtain ⟨xs, n, rfl, hx, hl, hxl, hf⟩ := DataW.trod_struct Tryz.underlying162 h
  have hc : Tryz.prog.cellsOf 162 = 2 := by kernel_rfl
  rw [hc] at hl
  obtain ⟨x0, x1, rfl⟩ : ∃ x0 x1, xs = [x0, x1] := by
    match xs, hxl with
    | [a, b], _ => exact ⟨a, b, rfl⟩
  have hd := congrArg Prod.fst hx
  simp only [rowA, List.map_cons, List.map_nil, DataW.agg.injEq, List.cons.injEq, and_true] at hd
  have e5 : Tryz.prog.cellsOf 5 = 1 := by kernel_rfl
  have f0 : DataW.trod enc Tryz.prog w base sp held n 5 ((cs.drop 0).take (Tryz.prog.cellsOf 5)) = some x0 := hf 0 _ rfl
  have f1 : DataW.trod enc Tryz.prog w base sp held n 5 ((cs.drop 1).take (Tryz.prog.cellsOf 5)) = some x1 := hf 1 _ rfl
  rw [e5] at f0 f1
  obtain ⟨a, c0, y0, _⟩ := DataW.trod_int Tryz.underlying5 f0
  obtain ⟨b, c1, y1, _⟩ := DataW.trod_int Tryz.underlying5 f1
  subst y0 y1
  simp only [DataW.lit.injEq, Lit.int.injEq, true_and] at hd
  obtain ⟨h1, h2⟩ := hd
  match cs, hl with
  | [v0, v1], _ =>
    have g0 := one_of c0
    have g1 := one_of c1
    simp at g0 g1
    simp [tab1f, g0, g1, h1, h2]
theorem tabA_cells {enc : TypeId × Value → Unit} {w : World} {base : Nat} {sp : Nat → Bool} {held : Bool} {fuel : Nat} {cs : List Value} {p} (h : DataW.trod enc Tryz.prog w base sp held fuel 163 cs = some (.agg (tab1.map rowA), p)) : cs = tab1.flatMap tab1f := by
  have hc : Tryz.prog.cellsOf 162 = 2 := by kernel_rfl
  have hct : Tryz.prog.cellsOf 163 = 32 := by kernel_rfl
  cases fuel with
  | zero => simp [DataW.trod] at h
  | succ fuel =>
    simp only [DataW.trod, Tryz.underlying163, hc, hct] at h
    split at h
    · rename_i hl
      obtain ⟨xs, hm, hx⟩ := Option.map_eq_some_iff.1 h
      have hxs : xs.map (·.1) = tab1.map (rowA (H := Unit)) := by
        have := congrArg Prod.fst hx
        simpa using this
      have hlen : (tab1.flatMap tab1f).length = 32 := by kernel_rfl
      have ht : tab1.length = 16 := by kernel_rfl
      apply List.ext_getElem?
      intro i
      by_cases hi : i < 32
      · obtain ⟨b, hb, hf⟩ := Lib.mapM_at hm (i / 2) (i / 2) (by rw [List.getElem?_range (by omega)])
        have hb2 : (xs.map (·.1))[i / 2]? = some b.1 := by simp [hb]
        rw [hxs] at hb2
        simp only [List.getElem?_map, Option.map_eq_some_iff] at hb2
        obtain ⟨r, hr, hrb⟩ := hb2
        have hrow := rowA_cells (r := r) (p := b.2) (by rw [hrb]; exact hf)
        have hg : tab1.getD (i / 2) tab1d = r := by rw [List.getD_eq_getElem?_getD, hr]; rfl
        have hflat := flat_at tab1f tab1d (sz := 2) (fun _ => rfl) tab1 (i / 2) (by omega)
        rw [hg, ← hrow] at hflat
        have := congrArg (·[i % 2]?) hflat
        simp only [List.getElem?_take, List.getElem?_drop, if_pos (show i % 2 < 2 by omega), show i / 2 * 2 + i % 2 = i by omega] at this
        exact this.symm
      · rw [List.getElem?_eq_none (by omega), List.getElem?_eq_none (by omega)]
    · cases h
theorem laid_get {W : World} {l : List (String × DataW Unit)} {name : String} {d : DataW Unit} {g : Nat} {t : TypeId} {R : List Value → Prop} (hp : (l.all fun x => x.2.handleName?.isNone) = true) (h : laidMetH Tryz.prog l W) (hm : (name, d) ∈ l)
    (hgn : Tryz.prog.globalNamed name = some g) (hty : (Tryz.prog.globals[g]?).map (·.type) = some t)
    (hR : ∀ (enc : TypeId × Value → Unit) (w : World) (base : Nat) (sp : Nat → Bool) (held : Bool) (fuel : Nat) (cs : List Value) p, DataW.trod enc Tryz.prog w base sp held fuel t cs = some (d, p) → R cs) :
    ∃ cs : List Value, R cs ∧ ∀ i v, cs[i]? = some v → cellH W.heap ⟨g, i, none⟩ = some v := by
  rw [MakeChecks.laidMetH_plain _ _ _ hp] at h
  obtain ⟨ps, hl, hz1, hz2⟩ := h
  clear hp hz1 hz2
  induction l generalizing ps with
  | nil => cases hm
  | cons x l ih =>
    obtain ⟨n, d'⟩ := x
    obtain ⟨g', t', cs, fuel, p, q, hg, ht, hvar, hd, hrest, _⟩ := hl
    rcases List.mem_cons.1 hm with hm | hm
    · obtain ⟨rfl, rfl⟩ := Prod.mk.inj hm
      obtain rfl := Option.some.inj (hgn.symm.trans hg)
      obtain rfl := Option.some.inj (hty.symm.trans ht)
      refine ⟨_, hR _ _ _ _ _ _ _ _ hd, fun i v hv => ?_⟩
      have := World.var?_cell hg hvar i
      show W.cell? ⟨g, i, none⟩ = some v
      rw [this, ← Array.getElem?_toList]
      exact hv
    · exact ih hm _ hrest
theorem laid_arr {W : World} {l : List (String × DataW Unit)} {name : String} {d : DataW Unit} {g : Nat} {t : TypeId} {R : List Value → Prop} (hp : (l.all fun x => x.2.handleName?.isNone) = true) (h : laidMetH Tryz.prog l W) (hm : (name, d) ∈ l)
    (hgn : Tryz.prog.globalNamed name = some g) (hty : (Tryz.prog.globals[g]?).map (·.type) = some t)
    (hR : ∀ (enc : TypeId × Value → Unit) (w : World) (base : Nat) (sp : Nat → Bool) (held : Bool) (fuel : Nat) (cs : List Value) p, DataW.trod enc Tryz.prog w base sp held fuel t cs = some (d, p) → R cs) :
    ∃ ar : Array Value, R ar.toList ∧ W.var? Tryz.prog name = some ar := by
  rw [MakeChecks.laidMetH_plain _ _ _ hp] at h
  obtain ⟨ps, hl, hz1, hz2⟩ := h
  clear hp hz1 hz2
  induction l generalizing ps with
  | nil => cases hm
  | cons x l ih =>
    obtain ⟨n, d'⟩ := x
    obtain ⟨g', t', cs, fuel, p, q, hg, ht, hvar, hd, hrest, _⟩ := hl
    rcases List.mem_cons.1 hm with hm | hm
    · obtain ⟨rfl, rfl⟩ := Prod.mk.inj hm
      obtain rfl := Option.some.inj (hgn.symm.trans hg)
      obtain rfl := Option.some.inj (hty.symm.trans ht)
      exact ⟨_, hR _ _ _ _ _ _ _ _ hd, hvar⟩
    · exact ih hm _ hrest
theorem tabs_of {W : World} {l : List (String × DataW Unit)} (hp : (l.all fun x => x.2.handleName?.isNone) = true) (h : laidMetH Tryz.prog l W) (h1 : ("unicode/utf8.first", Rows.laid_unicode_utf8_first) ∈ l) (h2 : ("unicode/utf8.acceptRanges", Rows.laid_unicode_utf8_acceptRanges) ∈ l) (h3 : ("internal/strconv.uint64pow10", Rows.laid_internal_strconv_uint64pow10) ∈ l) : Tabs W.heap := by
  refine ⟨?_, ?_, ?_⟩
  · obtain ⟨cs, rfl, hc⟩ := laid_get (g := 0) (t := 159) (R := fun cs => cs = (Go.Pinned.utf8FirstZ.map fun n : Nat => (n : Int)).map fun z => Value.int .u8 z) hp h h1 (by kernel_rfl) (by kernel_rfl) (fun enc w base sp held fuel cs p hd => by rw [laid_first] at hd; exact Lib.cells_of_tab (n := 256) (e := 5) Tryz.underlying159 Tryz.underlying5 (by kernel_rfl) (by kernel_rfl) hd)
    exact cellsAt_of_get _ 0 fun i v hv => by
      rw [Nat.zero_add]
      refine hc i v ?_
      rw [List.map_map]
      exact hv
  · obtain ⟨cs, rfl, hc⟩ := laid_get (g := 1) (t := 163) (R := fun cs => cs = tab1.flatMap tab1f) hp h h2 (by kernel_rfl) (by kernel_rfl) (fun enc w base sp held fuel cs p hd => by rw [laid_acc] at hd; exact tabA_cells hd)
    exact cellsAt_of_get _ 0 fun i v hv => by rw [Nat.zero_add]; exact hc i v hv
  · obtain ⟨ar, hR, hv⟩ := laid_arr (g := 3) (t := 186) (R := fun cs => cs = Lib.pow10Tab.map fun z => Value.int .u64 z) hp h h3 (by kernel_rfl) (by kernel_rfl) (fun enc w base sp held fuel cs p hd => by rw [laid_pow] at hd; exact Lib.cells_of_tab (n := 20) (e := 180) Tryz.underlying186 Tryz.underlying180 (by kernel_rfl) (by kernel_rfl) hd)
    unfold World.var? at hv
    rw [show Tryz.prog.globalNamed "internal/strconv.uint64pow10" = some 3 by kernel_rfl, Option.bind_some] at hv
    split at hv
    · rename_i cs t fr hc
      obtain rfl := Option.some.inj hv
      refine ⟨t, fr, hc.trans ?_⟩
      rw [← hR]
    · cases hv

/-! ### What was there is as it was -/
/-- The world behind: of what was there nothing has turned. -/
structure Kept (w w' : World) : Prop where
  os : w'.os = w.os
  output : w'.output = w.output
  old : ∀ k, k < w.heap.size → w'.heap[k]? = w.heap[k]?
theorem kept_of {w w' : World} (hr : Go.Hp.Rest w w') (he : Ext w.heap w'.heap) : Kept w w' := ⟨hr.os, hr.output, he.2.1⟩
theorem Kept.frame {w w' : World} (h : Kept w w') (may : MemPlace → Prop) : w.keptBut w' may := by
  refine ⟨h.os, h.output, fun i hi => ?_⟩
  rw [h.old i hi]
  cases w.heap[i]? with
  | none => trivial
  | some o => cases o <;> first | exact ⟨rfl, rfl, rfl, fun _ _ => rfl⟩ | exact .inr ⟨rfl, rfl⟩ | trivial | rfl
theorem Kept.frozen {w w' : World} (h : Kept w w') {a : Addr} (ha : a.block < w.heap.size) : w'.frozen? a = w.frozen? a := by
  unfold World.frozen?
  rw [h.old _ ha]
/-- A law that comes to true, out of its printed function. -/
theorem calls_of {f : FuncId} {args : Array Value} {W : World} {R : Value → Heap → Prop} (hc : CallsH Tryz.prog f args R W.heap) (hR : ∀ v h', R v h' → v = .bool true ∧ Ext W.heap h') :
    Calls Tryz.prog f args W fun e w' => e = .returned (.bool true) ∧ Kept W w' ∧ Below W.heap.size W w' :=
  (hc W rfl).mono fun e w' ⟨v, he, hr, hq⟩ => by
    obtain ⟨rfl, hx⟩ := hR v _ hq
    exact ⟨he, kept_of hr hx, ⟨hr.os, hr.tape, hr.output, hx.1, fun k hk => hx.2.1 k hk⟩⟩
/-- The row's own word, where the arguments are as they were. -/
theorem post_kept {H : Type} {enc : TypeId × Value → H} {P : Program} {f : Func} {s : ChangeSpec} {apart fresh handsOn again : Bool} {W W' : World} {args : Array Value} {v : Value} {ds gs : List (DataW H)} {before pa pv : List MemPlace} (hg : Kept W W')
    (hW : DataW.Whole enc P f.params.toList s.vars apart W args.toList ds gs before)
    (r : ∀ (b : Nat) (sp : Nat → Bool) (hd : Bool), DataW.TrodAll enc P W' b sp hd f.resultTypes.toList (v.resultList f.resultTypes.size) (s.fn H (ds ++ gs)).results [])
    (a : ∀ sp : Nat → Bool, (∀ p ∈ before, sp p.block = true) → DataW.TrodAll enc P W' 0 sp true f.params.toList args.toList (s.fn H (ds ++ gs)).args pa)
    (q : ∀ sp : Nat → Bool, (∀ p ∈ before, sp p.block = true) → DataW.TrodVars enc P W' sp s.vars (s.fn H (ds ++ gs)).vars pv)
    (e : before = pa ++ pv) (ok : ∀ (j : Nat) (t : TypeId) (r : Value), f.resultTypes[j]? = some t → (v.resultList f.resultTypes.size)[j]? = some r → Value.okWide P W' .any 0 t r) :
    s.post enc P f apart fresh handsOn again W args v W' := by
  have lt := hW.lt
  have all : ∀ p ∈ before, (fun _ : Nat => true) p.block = true := fun _ _ => rfl
  have low : ∀ p ∈ before, decide (p.block < W.heap.size) = true := fun p hp => decide_eq_true (lt p hp)
  obtain ⟨_, _, _, _, _, hz, hn⟩ := id hW
  exact ⟨ds, gs, before, [], pa, pv, hW, r _ _ _, a _ low, q _ low, hg.frame _, fun _ => ⟨ok, _, _, pa ++ pv,
    ⟨pa, pv, by simpa using trodAll_append (a _ all) (r _ _ _), q _ all, rfl, fun b off hp => by
      have hp' : MemPlace.cell b off ∈ before := by rw [e]; exact hp
      rw [hg.frozen (lt _ hp')]
      exact hz b off hp', fun ha => by rw [← e]; exact hn ha⟩, fun p hp _ => by rw [e]; exact hp⟩⟩

/-! ### What a screen is made with, as an argument -/
theorem open_setup {H : Type} {enc : TypeId × Value → H} {w : World} {base : Nat} {sp : Nat → Bool} {held : Bool} {r : Reach} {b0 : Nat} {v : Value} {d : DataW H} {ps : List MemPlace} (hval : Value.okWide Tryz.prog w r b0 23 v) (hd : DataW.Trod enc Tryz.prog w base sp held 23 v d ps) :
    ∃ x y z, v = .agg #[.int .i64 x, .int .i64 y, .int .i64 z] ∧ d = .agg [.lit (.int .i64 x), .lit (.int .i64 y), .lit (.int .i64 z)] ∧ ps = [] ∧ (Lit.int .i64 x).wf = true ∧ (Lit.int .i64 y).wf = true ∧ (Lit.int .i64 z).wf = true := by
  obtain ⟨cs, rfl, hsz⟩ := okWide_struct Tryz.underlying23 hval
  obtain ⟨fuel, hf⟩ := hd
  obtain ⟨xs, n, rfl, hx, hl, hxl, hfs⟩ := DataW.trod_struct Tryz.underlying23 hf
  have hc : Tryz.prog.cellsOf 23 = 3 := by kernel_rfl
  have e3 : Tryz.prog.cellsOf 3 = 1 := by kernel_rfl
  rw [hc] at hsz
  obtain ⟨x0, x1, x2, rfl⟩ : ∃ x0 x1 x2, xs = [x0, x1, x2] := by
    match xs, hxl with
    | [a, b, c], _ => exact ⟨a, b, c, rfl⟩
  have f0 : DataW.trod enc Tryz.prog w base sp held n 3 ((cs.toList.drop 0).take (Tryz.prog.cellsOf 3)) = some x0 := hfs 0 _ rfl
  have f1 : DataW.trod enc Tryz.prog w base sp held n 3 ((cs.toList.drop 1).take (Tryz.prog.cellsOf 3)) = some x1 := hfs 1 _ rfl
  have f2 : DataW.trod enc Tryz.prog w base sp held n 3 ((cs.toList.drop 2).take (Tryz.prog.cellsOf 3)) = some x2 := hfs 2 _ rfl
  rw [e3] at f0 f1 f2
  obtain ⟨x, c0, y0, wx⟩ := DataW.trod_int Tryz.underlying3 f0
  obtain ⟨y, c1, y1, wy⟩ := DataW.trod_int Tryz.underlying3 f1
  obtain ⟨z, c2, y2, wz⟩ := DataW.trod_int Tryz.underlying3 f2
  subst y0 y1 y2
  have g0 := one_of c0
  have g1 := one_of c1
  have g2 := one_of c2
  simp only [List.map_cons, List.map_nil, List.flatMap_cons, List.flatMap_nil, List.append_nil, Prod.mk.injEq] at hx
  refine ⟨x, y, z, ?_, hx.1, hx.2, wx, wy, wz⟩
  congr 1
  apply Array.ext_getElem?
  intro i
  rw [Array.getElem?_toList] at g0 g1 g2
  match i with
  | 0 => exact g0
  | 1 => exact g1
  | 2 => exact g2
  | i + 3 => rw [Array.getElem?_eq_none (by omega), Array.getElem?_eq_none (by simp)]
theorem shut_setup {H : Type} {enc : TypeId × Value → H} {w : World} {base : Nat} {sp : Nat → Bool} {held : Bool} {x y z : Int} (wx : (Lit.int .i64 x).wf = true) (wy : (Lit.int .i64 y).wf = true) (wz : (Lit.int .i64 z).wf = true) :
    DataW.Trod enc Tryz.prog w base sp held 23 (.agg #[.int .i64 x, .int .i64 y, .int .i64 z]) (.agg [.lit (.int .i64 x), .lit (.int .i64 y), .lit (.int .i64 z)]) [] := by
  have hc : Tryz.prog.cellsOf 23 = 3 := by kernel_rfl
  have e3 : Tryz.prog.cellsOf 3 = 1 := by kernel_rfl
  refine ⟨2, ?_⟩
  simp only [DataW.trod, Tryz.underlying23, Value.cells, hc]
  simp [DataW.trod, Tryz.underlying3, e3, wx, wy, wz]

/-! ### Numbers as an argument -/
theorem bulk_pos {H : Type} (d : DataW H) : 1 ≤ Rows.uptoBulk d := by
  match d with
  | .lit (.string b) => simp [Rows.uptoBulk]
  | .lit (.int k n) => simp [Rows.uptoBulk]
  | .lit (.bool b) => simp [Rows.uptoBulk]
  | .nil => simp [Rows.uptoBulk]
  | .ptr d => simp [Rows.uptoBulk]
  | .slice e s => simp [Rows.uptoBulk]
  | .agg p => simp [Rows.uptoBulk]
  | .iface t d => simp [Rows.uptoBulk]
  | .map e => simp [Rows.uptoBulk]
  | .held h => simp [Rows.uptoBulk]
  | .lit x => cases x <;> simp [Rows.uptoBulk]
theorem bulk_len {H : Type} : ∀ l : List (DataW H), l.length ≤ Rows.uptoBulkAll l
  | [] => by simp [Rows.uptoBulkAll]
  | d :: l => by
    have h1 := bulk_pos d
    have h2 := bulk_len l
    simp only [Rows.uptoBulkAll, List.length_cons]
    omega
theorem open_ints {H : Type} {enc : TypeId × Value → H} {W : World} {base fuel : Nat} {sp : Nat → Bool} {held : Bool} {a0 : Option Addr} {len cap : Nat} {d0 : DataW H} {p0 : List MemPlace}
    (hf : DataW.trod enc Tryz.prog W base sp held fuel 54 (Value.cells (.slice a0 len cap)).toList = some (d0, p0)) :
    ∃ ks : List Int, IAt W.heap a0 len ks ∧ len ≤ Rows.uptoBulk d0 := by
  rcases Deep.open_slice Tryz.underlying54 hf with ⟨hcs, hx⟩ | ⟨a, len', cap', m, n, D, Pl, hcs, _, hl, hm, hmm, hx, hcell⟩
  · simp only [Value.cells, List.cons.injEq, Value.slice.injEq, and_true] at hcs
    obtain ⟨rfl, rfl, rfl⟩ := hcs
    exact ⟨[], ⟨rfl, fun i hi => by omega⟩, by omega⟩
  · simp only [Value.cells, List.cons.injEq, Value.slice.injEq, and_true] at hcs
    obtain ⟨rfl, rfl, rfl⟩ := hcs
    have hlm : len ≤ m := by rw [hmm]; split <;> omega
    have e3 : Tryz.prog.cellsOf 3 = 1 := by kernel_rfl
    have each : ∀ i, i < len → ∃ k : Int, W.cell? ((a.add (i * 1)).add 0) = some (.int .i64 k) := by
      intro i hi
      obtain ⟨cs', h1, h2⟩ := hcell i (by omega)
      rw [e3] at h1
      obtain ⟨_, hlen, hg⟩ := World.cells?_some h1
      obtain ⟨c, c0, y0, wc⟩ := DataW.trod_int Tryz.underlying3 h2
      refine ⟨c, ?_⟩
      rw [hg 0 (by omega), c0]
      rfl
    obtain ⟨Kx, hK⟩ := Deep.choose_lt each
    refine ⟨(List.range len).map Kx, ⟨by simp, fun i hi => ⟨a, rfl, ?_⟩⟩, ?_⟩
    · have := hK i hi
      rw [Deep.add_add, Nat.add_zero] at this
      rw [List.getD_eq_getElem?_getD, List.getElem?_map, List.getElem?_range hi]
      exact this
    · obtain rfl : d0 = .slice ((List.range len).map D) ((List.range (m - len)).map fun j => D (len + j)) := congrArg Prod.fst hx
      have := bulk_len ((List.range len).map D)
      simp only [List.length_map, List.length_range] at this
      simp only [Rows.uptoBulk]
      omega
theorem laidOut : laidOutB Tryz.prog = true := by kernel_rfl
end Go.Proofs.YthjdnhhifjpidaaGreatDoor.M
