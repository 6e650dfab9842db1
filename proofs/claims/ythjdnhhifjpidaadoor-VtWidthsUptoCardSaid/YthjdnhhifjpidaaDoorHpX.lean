/-
  SLICES OF SLICES, make, A SLICE'S BYTES AS A STRING, append OF ANOTHER SLICE TYPE. Own work; no program.
-/
import Derived.Test.YthjdnhhifjpidaaDoorHpS
set_option linter.unusedVariables false
set_option linter.unusedSimpArgs false
namespace Go.Hp
open Go

def cutA (a : Option Addr) (c l sz : Nat) : Option Addr := if c = l then a else a.map (·.add (l * sz))
theorem rd_slS {P : Program} {h : Heap} {t el sz : Nat} {a : Option Addr} {n c : Nat} {lo hi : Option Value} {l e' : Nat} {r : Option Next} (hu : P.underlying t = some (.slice el)) (hz : (P.info? el).map (·.size) = some sz)
    (hb : rd P (Instr.sliceBounds true n c lo hi none) h = some (l, e', c)) (hk : r = rd P (toVal (Instr.sliceAt t (.slice a n c) lo hi none)) h) : r = some (.value (.slice (cutA a c l sz) (e' - l) (c - l))) := by
  have e : rd P (Instr.sliceAt t (.slice a n c) lo hi none) h = some (.slice (cutA a c l sz) (e' - l) (c - l)) := by
    unfold Instr.sliceAt Instr.slice
    simp only [semBind, semPure, rd_bind, rd_underlying hu, Option.bind_some, hb, rd, rd_sizeOf' hz]
    rfl
  rw [hk, toVal, rd_bind, e]
  rfl
theorem rd_sSLo {P : Program} {h : Heap} {t el sz : Nat} {a : Option Addr} {n c : Nat} {k : IntKind} {i : Int} {r : Option Next} (hu : P.underlying t = some (.slice el)) (hz : (P.info? el).map (·.size) = some sz) (h0 : 0 ≤ i) (h1 : i ≤ (n : Int))
    (hk : r = rd P (toVal (Instr.sliceAt t (.slice a n c) (some (.int k i)) none none)) h) : r = some (.value (.slice (cutA a c i.toNat sz) (n - i.toNat) (c - i.toNat))) := by
  refine rd_slS hu hz ?_ hk
  have hin : (0 ≤ i ∧ i ≤ (n : Int)) := ⟨h0, h1⟩
  simp only [Instr.sliceBounds, Instr.sliceBound, semBind, semPure, rd_bind, asIntOf, rd, Option.bind_some, if_pos hin, Option.isSome_none, Bool.false_eq_true, if_false]
theorem rd_sSHi {P : Program} {h : Heap} {t el sz : Nat} {a : Option Addr} {n c : Nat} {k : IntKind} {i : Int} {r : Option Next} (hu : P.underlying t = some (.slice el)) (hz : (P.info? el).map (·.size) = some sz) (h0 : 0 ≤ i) (h1 : i ≤ (c : Int))
    (hk : r = rd P (toVal (Instr.sliceAt t (.slice a n c) none (some (.int k i)) none)) h) : r = some (.value (.slice (cutA a c 0 sz) (i.toNat - 0) (c - 0))) := by
  refine rd_slS hu hz ?_ hk
  have hin : (0 ≤ i ∧ i ≤ (c : Int)) := ⟨h0, h1⟩
  simp only [Instr.sliceBounds, Instr.sliceBound, semBind, semPure, rd_bind, asIntOf, rd, Option.bind_some, if_pos hin, Bool.false_eq_true, if_false]
theorem rd_sSLH {P : Program} {h : Heap} {t el sz : Nat} {a : Option Addr} {n c : Nat} {k k' : IntKind} {i j : Int} {r : Option Next} (hu : P.underlying t = some (.slice el)) (hz : (P.info? el).map (·.size) = some sz) (h0 : 0 ≤ j) (h1 : j ≤ (c : Int)) (h2 : 0 ≤ i) (h3 : i ≤ j)
    (hk : r = rd P (toVal (Instr.sliceAt t (.slice a n c) (some (.int k i)) (some (.int k' j)) none)) h) : r = some (.value (.slice (cutA a c i.toNat sz) (j.toNat - i.toNat) (c - i.toNat))) := by
  refine rd_slS hu hz ?_ hk
  have hin : (0 ≤ j ∧ j ≤ (c : Int)) := ⟨h0, h1⟩
  have hin2 : (0 ≤ i ∧ i ≤ ((j.toNat : Nat) : Int)) := ⟨h2, by omega⟩
  simp only [Instr.sliceBounds, Instr.sliceBound, semBind, semPure, rd_bind, asIntOf, rd, Option.bind_some, if_pos hin, if_pos hin2, Option.isSome_none, Bool.false_eq_true, if_false]

theorem cN {h : Heap} {a : Addr} (k : Nat) {v : Value} {vs : List Value} (h1 : cellH h (a.add k) = some v) (h2 : cellsAt h a (k + 1) vs) : cellsAt h a k (v :: vs) := ⟨h1, h2⟩
/-- A struct that is read, cell by cell. -/
theorem rd_loadStr {P : Program} {h : Heap} {t : Nat} {fs : Array Field} {a : Addr} (vs : List Value) {r : Option Next} (hu : P.underlying t = some (.struct fs)) (hz : (P.info? t).map (·.size) = some vs.length) (hc : cellsAt h a 0 vs)
    (hk : r = rd P (toVal (loadVar t a)) h) : r = some (.value (.agg vs.toArray)) := by
  have e : rd P (loadVar t a) h = some (.agg vs.toArray) := by
    unfold loadVar isAgg
    simp only [semBind, semPure, rd_bind, rd_underlying hu, Option.bind_some, rd, if_true, rd_sizeOf' hz, rd_loadCells vs hc]
  rw [hk, toVal, rd_bind, e]
  rfl
/-- The bytes of a slice, as a string. -/
def BytsOf (h : Heap) (a : Option Addr) (n : Nat) (s : ByteArray) : Prop := ∃ l : List Int, l.length = n ∧ srcAt h a (l.map fun x => .int .u8 x) ∧ s = bytesOf l
def bytM (h : Heap) (a : Option Addr) (n : Nat) (K : ByteArray → Prop) : Prop := ∃ s : ByteArray, BytsOf h a n s ∧ K s
theorem rd_bytS {P : Program} {h : Heap} {a : Option Addr} {n c : Nat} {s : ByteArray} {r : Option Next} (hs : BytsOf h a n s) (hk : r = rd P (toVal (Conv.bytesToString (.slice a n c))) h) : r = some (.value (.string s)) := by
  obtain ⟨l, hl, hc, rfl⟩ := hs
  subst hl
  cases a with
  | none =>
    have : l = [] := by simpa [srcAt] using hc
    subst this
    rw [hk]
    rfl
  | some a => exact rd_bytes l hc hk

/-- make: a row of zeros. -/
def mkM (h : Heap) (et : TypeId) (by_ : Nat) (z : List Value) (n : Int) (K : Nat → Heap → Prop) : Prop := (0 ≤ n ∧ by_ * n ≤ 281474976710656) ∧ n ≤ 9223372036854775807 ∧ newB h (zeros z n.toNat).toArray et K
theorem zeros_eq (z : List Value) (hz : 0 < z.length) (n : Nat) : (Array.range (n * z.length)).map (fun i => z.toArray[i % z.toArray.size]!) = (zeros z n).toArray := by
  apply Array.ext'
  rw [Array.toList_map, Array.toList_range]
  show _ = zeros z n
  apply List.ext_getElem?
  intro i
  have hlen : (zeros z n).length = n * z.length := by simp [zeros, List.length_flatten]
  by_cases hi : i < n * z.length
  · rw [List.getElem?_map, List.getElem?_range hi]
    have key : ∀ (n i : Nat), i < n * z.length → (zeros z n)[i]? = z[i % z.length]? := by
      intro n
      induction n with
      | zero => intro i h; simp at h
      | succ n ih =>
        intro i h
        unfold zeros
        rw [List.replicate_succ, List.flatten_cons, List.getElem?_append]
        split
        · rename_i hlt; rw [Nat.mod_eq_of_lt hlt]
        · rename_i hge
          have : i - z.length < n * z.length := by rw [Nat.succ_mul] at h; omega
          have h2 := ih (i - z.length) this
          unfold zeros at h2
          rw [h2, ← Nat.mod_eq_sub_mod (by omega)]
    rw [key n i hi]
    have hm := Nat.mod_lt i hz
    simp only [Option.map_some, List.size_toArray, List.getElem!_toArray]
    rw [List.getElem?_eq_getElem hm, getElem!_pos z (i % z.length) hm]
  · rw [List.getElem?_eq_none (by simp; omega), List.getElem?_eq_none (by omega)]
theorem hpMk {P : Program} {n : Nat} {e : Env} {h : Heap} {o : Oper} {K : Value → Heap → Prop} {M : Nat → Heap → Prop} {t et : TypeId} {zv : Value} {by_ sz : Nat} {x : Int} (z : List Value)
    (hop : ∀ R : Next → Heap → Prop, hp P (execOp (evE n e) o) R h = hp P (toVal (Instr.makeSlice t (.int .i64 x) (.int .i64 x))) R h)
    (hu : P.underlying t = some (.slice et)) (hi : (P.info? et).map (fun i => (i.zero, i.size, i.bytes)) = some (some zv, sz, by_)) (hzc : zv.cells = z.toArray) (hzs : sz = z.length) (hpos : 0 < z.length)
    (hM : mkM h et by_ z x M) (k : ∀ b h1, M b h1 → K (.slice (some ⟨b, 0, none⟩) x.toNat x.toNat) h1) : hp P (execOp (evE n e) o) (nextE P K) h := by
  obtain ⟨i, h1, h2, h3, h4⟩ := info_of hi
  subst h3; subst h4
  obtain ⟨⟨m1, m2⟩, m3, hM⟩ := hM
  rw [hop, toVal, hp_bindE]
  have hw : IntKind.wrap .i64 x = x := by rw [IntKind.wrap_i64]; omega
  have t1 : (decide (x < 0) || decide ((i.bytes : Int) * x > 2 ^ 48)) = false := by
    rw [Bool.or_eq_false_iff]
    exact ⟨decide_eq_false (by omega), decide_eq_false (by omega)⟩
  unfold Instr.makeSlice
  simp only [semBind, semPure, hp_bindE, hp_underlying hu, asInt, asIntOf, hp_typeInfo h1, hp_pureE, hw, t1]
  rw [if_neg (show ¬ (false || decide (x < 0) || decide (x > x)) = true by simp; omega)]
  simp only [hp_bindE]
  refine hp_askRoom ?_
  simp only [hp_bindE, hp_sizeOf h1]
  have fin : ∀ zz : Array Value, (Array.range (x.toNat * i.size)).map (fun j => zz[j % zz.size]!) = (zeros z x.toNat).toArray →
      hp P ((newRow et ((Array.range (x.toNat * i.size)).map (fun j => zz[j % zz.size]!))).bind fun a => Sem.pure (Value.slice (some a) x.toNat x.toNat)) (fun a h => hp P (Sem.pure (Next.value a)) (nextE P K) h) h := by
    intro zz hzz
    rw [hzz]
    simp only [newRow, newObj, semBind, semPure, hp_bindE, hp_pureE]
    exact k h.size _ hM
  by_cases hn : x.toNat * i.size = 0
  · rw [if_pos hn]
    simp only [hp_bindE, hp_pureE]
    have := fin #[] (by
      have hx : x.toNat = 0 := by
        rcases Nat.eq_zero_or_pos x.toNat with h0 | h0
        · exact h0
        · have := Nat.mul_pos h0 (show 0 < i.size by omega); omega
      rw [hx]; simp [zeros])
    simpa only [hp_bindE, hp_pureE] using this
  · rw [if_neg hn]
    simp only [hp_bindE, hp_zeroValue h1 h2, hp_pureE]
    have := fin zv.cells (by rw [hzc, hzs]; exact zeros_eq z hpos x.toNat)
    simpa only [hp_bindE, hp_pureE] using this
theorem hp_append2 {P : Program} {h : Heap} {t t2 ty et et2 : TypeId} {i : TypeInfo} {zv : Value} {base xb : Option Addr} {n c m xc : Nat} {new : List Value} {K : Option Addr → Nat → Heap → Prop} {R : Value → Heap → Prop}
    (hu : P.underlying t = some (.slice et)) (hu2 : P.underlying t2 = some (.slice et2)) (hi : P.info? et = some i) (hz : i.zero = some zv) (z : List Value) (hzc : zv.cells = z.toArray) (hzs : i.size = z.length) (hpos : 0 < z.length)
    (hnl : new.length = m * z.length) (hall : new.all oneV = true) (hnew : srcAt h xb new)
    (hM : appH h et i.bytes z base n c new m K) (hK : ∀ a c' h', K a c' h' → R (.slice a (n + m) c') h') : hp P (Builtin.append_ #[t, t2] ty #[.slice base n c, .slice xb m xc]) R h := by
  obtain ⟨hb1, hb2, hroom, hgrow⟩ := hM
  have hfirst : ∀ {Q : Array Value → Heap → Prop}, Q new.toArray h → hp P (Builtin.firstCells z.length m (.slice xb m xc)) Q h := by
    intro Q hQ
    cases xb with
    | none => obtain rfl : new = [] := hnew; exact hQ
    | some b => exact hp_loadCells new hnew _ hnl.symm hQ
  have hmax : IntKind.i64.max = 9223372036854775807 := by decide
  have e0 : (#[t, t2] : Array TypeId)[0]? = some t := rfl
  have e1 : (#[t, t2] : Array TypeId)[1]? = some t2 := rfl
  have e2 : (#[Value.slice base n c, .slice xb m xc] : Array Value)[0]? = some (.slice base n c) := rfl
  have e3 : (#[Value.slice base n c, .slice xb m xc] : Array Value)[1]? = some (.slice xb m xc) := rfl
  simp only [Builtin.append_, e0, e1, e2, e3, semBind, semPure, hp_bindE, hp_underlying hu, hp_underlying hu2, hp_sizeOf hi, hp_pureE, Bool.false_eq_true, if_false, Builtin.lenOf, Bool.not_false, if_true, hzs]
  by_cases hc : n + m ≤ c
  · rw [if_pos hc]
    have hM := hroom hc
    simp only [hp_bindE]
    refine hfirst ?_
    cases base with
    | none => exact hK _ _ _ hM
    | some a =>
      simp only [hp_bindE]
      exact hp_storeCells (fun h' hk => hK _ _ _ hk) new 0 h hall (by simpa using hM)
  · rw [if_neg hc]
    obtain ⟨old, hol, hold, hk⟩ := hgrow (by omega)
    simp only [hp_bindE, hp_typeInfo hi]
    have g1 : ¬ (((n + m : Nat) : Int) > IntKind.i64.max ∧ (False ∨ i.bytes = 0)) := by rw [hmax]; omega
    rw [if_neg g1]
    have g2 : ¬ (Builtin.nextslicecap (n + m) c * i.bytes > 2 ^ 48) := by
      have := growslice_fits (bytes := i.bytes) (show c < n + m by omega) hb1
      omega
    simp only [hp_bindE, hp_typeInfo hi]
    rw [if_neg g2]
    simp only [hp_bindE]
    show hp P (Sem.choose (.appendCap (n + m) c et) Sem.pure) _ h
    refine ⟨fun hf => (by cases hf), fun _ tt => ?_⟩
    simp only [hp_pureE, hp_bindE, hp_typeInfo hi]
    refine hp_askRoom ?_
    have hold' : ∀ {Q : Array Value → Heap → Prop}, Q old.toArray h → hp P (Builtin.firstCells z.length n (.slice base n c)) Q h := by
      intro Q hQ
      cases base with
      | none => obtain rfl : old = [] := hold; exact hQ
      | some b => exact hp_loadCells old hold _ hol.symm hQ
    refine hold' ?_
    refine hfirst ?_
    simp only [hp_zeroValue hi hz, hzc, zeroCells_eq z hpos]
    have hlt : 0 < 2 ^ 63 - (n + m) := by omega
    have hcut : (Question.appendCap (n + m) c et).cut tt = n + m + tt % (2 ^ 63 - (n + m)) := rfl
    have hmod := Nat.mod_lt tt hlt
    have := hk (n + m + tt % (2 ^ 63 - (n + m))) (by omega) (by omega)
    simp only [newRow, newObj, semBind, semPure, hp_bindE, hp_pureE]
    show R (Value.slice (some ⟨h.size, 0, none⟩) (n + m) _) (h.push _)
    refine hK _ _ _ ?_
    rw [hcut]
    simpa using this
theorem hpApp2 {P : Program} {n : Nat} {e : Env} {h : Heap} {o : Oper} {K : Value → Heap → Prop} {M : Option Addr → Nat → Heap → Prop} {t t2 ty et et2 : TypeId} {zv : Value} {sz by_ : Nat} {base xb : Option Addr} {n' c m xc : Nat} {new : List Value}
    (hop : ∀ R : Next → Heap → Prop, hp P (execOp (evE n e) o) R h = hp P (toVal (Builtin.append_ #[t, t2] ty #[.slice base n' c, .slice xb m xc])) R h)
    (hu : P.underlying t = some (.slice et)) (hu2 : P.underlying t2 = some (.slice et2)) (hi : (P.info? et).map (fun i => (i.zero, i.size, i.bytes)) = some (some zv, sz, by_)) (z : List Value) (hzc : zv.cells = z.toArray) (hzs : sz = z.length) (hpos : 0 < z.length)
    (hnl : new.length = m * z.length) (hall : new.all oneV = true) (hnew : srcAt h xb new)
    (hM : appH h et by_ z base n' c new m M) (k : ∀ a c' h', M a c' h' → K (.slice a (n' + m) c') h') : hp P (execOp (evE n e) o) (nextE P K) h := by
  obtain ⟨i, h1, h2, h3, h4⟩ := info_of hi
  subst h3; subst h4
  rw [hop, toVal, hp_bindE]
  exact hp_append2 (K := M) hu hu2 h1 h2 z hzc hzs hpos hnl hall hnew hM k

end Go.Hp
