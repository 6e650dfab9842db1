/-
  SLICES OF SLICES, make, A SLICE'S BYTES AS A STRING, append OF ANOTHER SLICE TYPE. Own work; no program.
-/
import Derived.Test.YthjdnhhifjpidaaGreatDoorHpS
import Derived.KernelRfl
set_option linter.unusedVariables false
set_option linter.unusedSimpArgs false
namespace Go.Hp
open Go

def cutA (a : Option Addr) (c l sz : Nat) : Option Addr := if c = l then a else a.map (·.add (l * sz))
theorem rd_slS {P : Program} {h : Heap} {t el sz : Nat} {a : Option Addr} {n c : Nat} {lo hi : Option Value} {l e' : Nat} {r : Option Next} (hu : P.underlying t = some (.slice el)) (hz : (P.info? el).map (·.size) = some sz)
    (hb : rd P (Instr.sliceBounds true n c lo hi none) h = some (l, e', c)) (hk : r = rd P (toVal (Instr.sliceAt t (.slice a n c) lo hi none)) h) : r = some (.value (.slice (cutA a c l sz) (e' - l) (c - l))) := by
  have e : rd P (Instr.sliceAt t (.slice a n c) lo hi none) h = some (.slice (cutA a c l sz) (e' - l) (c - l)) := by
    unfold Instr.sliceAt Instr.slice
    simp only [semBind, semPure, rd_bind, rd_underlying hu, Option.bind_some, hb, rd, rd_sizeOf' hz]
    rfl
  rw [hk, toVal, rd_bind, e]
  rfl
theorem rd_sSLo {P : Program} {h : Heap} {t el sz : Nat} {a : Option Addr} {n c : Nat} {k : IntKind} {i : Int} {r : Option Next} (hu : P.underlying t = some (.slice el)) (hz : (P.info? el).map (·.size) = some sz) (h0 : 0 ≤ i) (h1 : i ≤ (n : Int))
    (hk : r = rd P (toVal (Instr.sliceAt t (.slice a n c) (some (.int k i)) none none)) h) : r = some (.value (.slice (cutA a c i.toNat sz) (n - i.toNat) (c - i.toNat))) := by
  refine rd_slS hu hz ?_ hk
  have hin : (0 ≤ i ∧ i ≤ (n : Int)) := ⟨h0, h1⟩
  simp only [Instr.sliceBounds, Instr.sliceBound, semBind, semPure, rd_bind, asIntOf, rd, Option.bind_some, if_pos hin, Option.isSome_none, Bool.false_eq_true, if_false]
theorem rd_sSHi {P : Program} {h : Heap} {t el sz : Nat} {a : Option Addr} {n c : Nat} {k : IntKind} {i : Int} {r : Option Next} (hu : P.underlying t = some (.slice el)) (hz : (P.info? el).map (·.size) = some sz) (h0 : 0 ≤ i) (h1 : i ≤ (c : Int))
    (hk : r = rd P (toVal (Instr.sliceAt t (.slice a n c) none (some (.int k i)) none)) h) : r = some (.value (.slice (cutA a c 0 sz) (i.toNat - 0) (c - 0))) := by
  refine rd_slS hu hz ?_ hk
  have hin : (0 ≤ i ∧ i ≤ (c : Int)) := ⟨h0, h1⟩
  simp only [Instr.sliceBounds, Instr.sliceBound, semBind, semPure, rd_bind, asIntOf, rd, Option.bind_some, if_pos hin, Bool.false_eq_true, if_false]
theorem rd_sSLH {P : Program} {h : Heap} {t el sz : Nat} {a : Option Addr} {n c : Nat} {k k' : IntKind} {i j : Int} {r : Option Next} (hu : P.underlying t = some (.slice el)) (hz : (P.info? el).map (·.size) = some sz) (h0 : 0 ≤ j) (h1 : j ≤ (c : Int)) (h2 : 0 ≤ i) (h3 : i ≤ j)
    (hk : r = rd P (toVal (Instr.sliceAt t (.slice a n c) (some (.int k i)) (some (.int k' j)) none)) h) : r = some (.value (.slice (cutA a c i.toNat sz) (j.toNat - i.toNat) (c - i.toNat))) := by
  refine rd_slS hu hz ?_ hk
  have hin : (0 ≤ j ∧ j ≤ (c : Int)) := ⟨h0, h1⟩
  have hin2 : (0 ≤ i ∧ i ≤ ((j.toNat : Nat) : Int)) := ⟨h2, by omega⟩
  simp only [Instr.sliceBounds, Instr.sliceBound, semBind, semPure, rd_bind, asIntOf, rd, Option.bind_some, if_pos hin, if_pos hin2, Option.isSome_none, Bool.false_eq_true, if_false]

theorem cN {h : Heap} {a : Addr} (k : Nat) {v : Value} {vs : List Value} (h1 : cellH h (a.add k) = some v) (h2 : cellsAt h a (k + 1) vs) : cellsAt h a k (v :: vs) := ⟨h1, h2⟩
/-- A struct that is read, cell by cell. -/
theorem rd_loadStr {P : Program} {h : Heap} {t : Nat} {fs : Array Field} {a : Addr} (vs : List Value) {r : Option Next} (hu : P.underlying t = some (.struct fs)) (hz : (P.info? t).map (·.size) = some vs.length) (hc : cellsAt h a 0 vs)
    (hk : r = rd P (toVal (loadVar t a)) h) : r = some (.value (.agg vs.toArray)) := by
  have e : rd P (loadVar t a) h = some (.agg vs.toArray) := by
    unfold loadVar isAgg
    simp only [semBind, semPure, rd_bind, rd_underlying hu, Option.bind_some, rd, if_true, rd_sizeOf' hz, rd_loadCells vs hc]
  rw [hk, toVal, rd_bind, e]
  rfl
/-- The bytes of a slice, as a string. -/
def BytsOf (h : Heap) (a : Option Addr) (n : Nat) (s : ByteArray) : Prop := ∃ l : List Int, l.length = n ∧ srcAt h a (l.map fun x => .int .u8 x) ∧ s = bytesOf l
def bytM (h : Heap) (a : Option Addr) (n : Nat) (K : ByteArray → Prop) : Prop := ∃ s : ByteArray, BytsOf h a n s ∧ K s
theorem rd_bytS {P : Program} {h : Heap} {a : Option Addr} {n c : Nat} {s : ByteArray} {r : Option Next} (hs : BytsOf h a n s) (hk : r = rd P (toVal (Conv.bytesToString (.slice a n c))) h) : r = some (.value (.string s)) := by
  obtain ⟨l, hl, hc, rfl⟩ := hs
  subst hl
  cases a with
  | none =>
    have : l = [] := by simpa [srcAt] using hc
    subst this
    rw [hk]
    rfl
  | some a => exact rd_bytes l hc hk

/-- make: a row of zeros. -/
def mkM (h : Heap) (et : TypeId) (by_ : Nat) (z : List Value) (n : Int) (K : Nat → Heap → Prop) : Prop := (0 ≤ n ∧ by_ * n ≤ 281474976710656) ∧ n ≤ 9223372036854775807 ∧ newB h (zeros z n.toNat).toArray et K
theorem zeros_eq (z : List Value) (hz : 0 < z.length) (n : Nat) : (Array.range (n * z.length)).map (fun i => z.toArray[i % z.toArray.size]!) = (zeros z n).toArray := by
  apply Array.ext'
  rw [Array.toList_map, Array.toList_range]
  show _ = zeros z n
  apply List.ext_getElem?
  intro i
  have hlen : (zeros z n).length = n * z.length := by simp [zeros, List.length_flatten]
  by_cases hi : i < n * z.length
  · rw [List.getElem?_map, List.getElem?_range hi]
    have key : ∀ (n i : Nat), i < n * z.length → (zeros z n)[i]? = z[i % z.length]? := by
      intro n
      induction n with
      | zero => intro i h; simp at h
      | succ n ih =>
        intro i h
        unfold zeros
        rw [List.replicate_succ, List.flatten_cons, List.getElem?_append]
        split
        · rename_i hlt; rw [Nat.mod_eq_of_lt hlt]
        · rename_i hge
          have : i - z.length < n * z.length := by rw [Nat.succ_mul] at h; omega
          have h2 := ih (i - z.length) this
          unfold zeros at h2
          rw [h2, ← Nat.mod_eq_sub_mod (by omega)]
    rw [key n i hi]
    have hm := Nat.mod_lt i hz
    simp only [Option.map_some, List.size_toArray, List.getElem!_toArray]
    rw [List.getElem?_eq_getElem hm, getElem!_pos z (i % z.length) hm]
  · rw [List.getElem?_eq_none (by simp; omega), List.getElem?_eq_none (by omega)]
theorem hpMk {P : Program} {n : Nat} {e : Env} {h : Heap} {o : Oper} {K : Value → Heap → Prop} {M : Nat → Heap → Prop} {t et : TypeId} {zv : Value} {by_ sz : Nat} {x : Int} (z : List Value)
    (hop : ∀ R : Next → Heap → Prop, hp P (execOp (evE n e) o) R h = hp P (toVal (Instr.makeSlice t (.int .i64 x) (.int .i64 x))) R h)
    (hu : P.underlying t = some (.slice et)) (hi : (P.info? et).map (fun i => (i.zero, i.size, i.bytes)) = some (some zv, sz, by_)) (hzc : zv.cells = z.toArray) (hzs : sz = z.length) (hpos : 0 < z.length)
    (hM : mkM h et by_ z x M) (k : ∀ b h1, M b h1 → K (.slice (some ⟨b, 0, none⟩) x.toNat x.toNat) h1) : hp P (execOp (evE n e) o) (nextE P K) h := by
  obtain ⟨i, h1, h2, h3, h4⟩ := info_of hi
  subst h3; subst h4
  obtain ⟨⟨m1, m2⟩, m3, hM⟩ := hM
  rw [hop, toVal, hp_bindE]
  have hw : IntKind.wrap .i64 x = x := by rw [IntKind.wrap_i64]; omega
  have t1 : (decide (x < 0) || decide ((i.bytes : Int) * x > 2 ^ 48)) = false := by
    rw [Bool.or_eq_false_iff]
    exact ⟨decide_eq_false (by omega), decide_eq_false (by omega)⟩
  unfold Instr.makeSlice
  simp only [semBind, semPure, hp_bindE, hp_underlying hu, asInt, asIntOf, hp_typeInfo h1, hp_pureE, hw, t1]
  rw [if_neg (show ¬ (false || decide (x < 0) || decide (x > x)) = true by simp; omega)]
  simp only [hp_bindE]
  refine hp_askRoom ?_
  simp only [hp_bindE, hp_sizeOf h1]
  have fin : ∀ zz : Array Value, (Array.range (x.toNat * i.size)).map (fun j => zz[j % zz.size]!) = (zeros z x.toNat).toArray →
      hp P ((newRow et ((Array.range (x.toNat * i.size)).map (fun j => zz[j % zz.size]!))).bind fun a => Sem.pure (Value.slice (some a) x.toNat x.toNat)) (fun a h => hp P (Sem.pure (Next.value a)) (nextE P K) h) h := by
    intro zz hzz
    rw [hzz]
    simp only [newRow, newObj, semBind, semPure, hp_bindE, hp_pureE]
    exact k h.size _ hM
  by_cases hn : x.toNat * i.size = 0
  · rw [if_pos hn]
    simp only [hp_bindE, hp_pureE]
    have := fin #[] (by
      have hx : x.toNat = 0 := by
        rcases Nat.eq_zero_or_pos x.toNat with h0 | h0
        · exact h0
        · have := Nat.mul_pos h0 (show 0 < i.size by omega); omega
      rw [hx]; simp [zeros])
    simpa only [hp_bindE, hp_pureE] using this
  · rw [if_neg hn]
    simp only [hp_bindE, hp_zeroValue h1 h2, hp_pureE]
    have := fin zv.cells (by rw [hzc, hzs]; exact zeros_eq z hpos x.toNat)
    simpa only [hp_bindE, hp_pureE] using this
theorem hp_append2 {P : Program} {h : Heap} {t t2 ty et et2 : TypeId} {i : TypeInfo} {zv : Value} {base xb : Option Addr} {n c m xc : Nat} {new : List Value} {K : Option Addr → Nat → Heap → Prop} {R : Value → Heap → Prop}
    (hu : P.underlying t = some (.slice et)) (hu2 : P.underlying t2 = some (.slice et2)) (hi : P.info? et = some i) (hz : i.zero = some zv) (z : List Value) (hzc : zv.cells = z.toArray) (hzs : i.size = z.length) (hpos : 0 < z.length)
    (hnl : new.length = m * z.length) (hall : new.all oneV = true) (hnew : srcAt h xb new)
    (hM : appH h et i.bytes z base n c new m K) (hK : ∀ a c' h', K a c' h' → R (.slice a (n + m) c') h') : hp P (Builtin.append_ #[t, t2] ty #[.slice base n c, .slice xb m xc]) R h := by
  obtain ⟨hb1, hb2, hroom, hgrow⟩ := hM
  have hfirst : ∀ {Q : Array Value → Heap → Prop}, Q new.toArray h → hp P (Builtin.firstCells z.length m (.slice xb m xc)) Q h := by
    intro Q hQ
    cases xb with
    | none => obtain rfl : new = [] := hnew; exact hQ
    | some b => exact hp_loadCells new hnew _ hnl.symm hQ
  have hmax : IntKind.i64.max = 9223372036854775807 := by decide
  have e0 : (#[t, t2] : Array TypeId)[0]? = some t := rfl
  have e1 : (#[t, t2] : Array TypeId)[1]? = some t2 := rfl
  have e2 : (#[Value.slice base n c, .slice xb m xc] : Array Value)[0]? = some (.slice base n c) := rfl
  have e3 : (#[Value.slice base n c, .slice xb m xc] : Array Value)[1]? = some (.slice xb m xc) := rfl
  simp only [Builtin.append_, e0, e1, e2, e3, semBind, semPure, hp_bindE, hp_underlying hu, hp_underlying hu2, hp_sizeOf hi, hp_pureE, Bool.false_eq_true, if_false, Builtin.lenOf, Bool.not_false, if_true, hzs]
  by_cases hc : n + m ≤ c
  · rw [if_pos hc]
    have hM := hroom hc
    simp only [hp_bindE]
    refine hfirst ?_
    cases base with
    | none => exact hK _ _ _ hM
    | some a =>
      simp only [hp_bindE]
      exact hp_storeCells (fun h' hk => hK _ _ _ hk) new 0 h hall (by simpa using hM)
  · rw [if_neg hc]
    obtain ⟨old, hol, hold, hk⟩ := hgrow (by omega)
    simp only [hp_bindE, hp_typeInfo hi]
    have g1 : ¬ (((n + m : Nat) : Int) > IntKind.i64.max ∧ (False ∨ i.bytes = 0)) := by rw [hmax]; omega
    rw [if_neg g1]
    have g2 : ¬ (Builtin.nextslicecap (n + m) c * i.bytes > 2 ^ 48) := by
      have := growslice_fits (bytes := i.bytes) (show c < n + m by omega) hb1
      omega
    simp only [hp_bindE, hp_typeInfo hi]
    rw [if_neg g2]
    simp only [hp_bindE]
    show hp P (Sem.choose (.appendCap (n + m) c et) Sem.pure) _ h
    refine ⟨fun hf => (by cases hf), fun _ tt => ?_⟩
    simp only [hp_pureE, hp_bindE, hp_typeInfo hi]
    refine hp_askRoom ?_
    have hold' : ∀ {Q : Array Value → Heap → Prop}, Q old.toArray h → hp P (Builtin.firstCells z.length n (.slice base n c)) Q h := by
      intro Q hQ
      cases base with
      | none => obtain rfl : old = [] := hold; exact hQ
      | some b => exact hp_loadCells old hold _ hol.symm hQ
    refine hold' ?_
    refine hfirst ?_
    simp only [hp_zeroValue hi hz, hzc, zeroCells_eq z hpos]
    have hlt : 0 < 2 ^ 63 - (n + m) := by omega
    have hcut : (Question.appendCap (n + m) c et).cut tt = n + m + tt % (2 ^ 63 - (n + m)) := rfl
    have hmod := Nat.mod_lt tt hlt
    have := hk (n + m + tt % (2 ^ 63 - (n + m))) (by omega) (by omega)
    simp only [newRow, newObj, semBind, semPure, hp_bindE, hp_pureE]
    show R (Value.slice (some ⟨h.size, 0, none⟩) (n + m) _) (h.push _)
    refine hK _ _ _ ?_
    rw [hcut]
    simpa using this
theorem hpApp2 {P : Program} {n : Nat} {e : Env} {h : Heap} {o : Oper} {K : Value → Heap → Prop} {M : Option Addr → Nat → Heap → Prop} {t t2 ty et et2 : TypeId} {zv : Value} {sz by_ : Nat} {base xb : Option Addr} {n' c m xc : Nat} {new : List Value}
    (hop : ∀ R : Next → Heap → Prop, hp P (execOp (evE n e) o) R h = hp P (toVal (Builtin.append_ #[t, t2] ty #[.slice base n' c, .slice xb m xc])) R h)
    (hu : P.underlying t = some (.slice et)) (hu2 : P.underlying t2 = some (.slice et2)) (hi : (P.info? et).map (fun i => (i.zero, i.size, i.bytes)) = some (some zv, sz, by_)) (z : List Value) (hzc : zv.cells = z.toArray) (hzs : sz = z.length) (hpos : 0 < z.length)
    (hnl : new.length = m * z.length) (hall : new.all oneV = true) (hnew : srcAt h xb new)
    (hM : appH h et by_ z base n' c new m M) (k : ∀ a c' h', M a c' h' → K (.slice a (n' + m) c') h') : hp P (execOp (evE n e) o) (nextE P K) h := by
  obtain ⟨i, h1, h2, h3, h4⟩ := info_of hi
  subst h3; subst h4
  rw [hop, toVal, hp_bindE]
  exact hp_append2 (K := M) hu hu2 h1 h2 z hzc hzs hpos hnl hall hnew hM k

/-! ### copy, clear, a slice of an array -/
def cpM (h : Heap) (sz : Nat) (d : Option Addr) (dn : Nat) (s : Option Addr) (sn : Nat) (K : Heap → Prop) : Prop :=
  ∃ new : List Value, new.length = Nat.min sn dn * sz ∧ new.all oneV = true ∧ srcAt h s new ∧ (match d with | none => K h | some a => stN a new 0 h K)
theorem hpCp {P : Program} {n : Nat} {e : Env} {h : Heap} {o : Oper} {K : Value → Heap → Prop} {M : Heap → Prop} {t t2 ty et sz : Nat} {d s : Option Addr} {dn dc sn sc : Nat}
    (hop : ∀ R : Next → Heap → Prop, hp P (execOp (evE n e) o) R h = hp P (toVal (Builtin.copy_ #[t, t2] ty #[.slice d dn dc, .slice s sn sc])) R h)
    (hu : P.underlying t = some (.slice et)) (hz : (P.info? et).map (·.size) = some sz) (hM : cpM h sz d dn s sn M) (k : ∀ h', M h' → K (.int .i64 (Nat.min sn dn : Nat)) h') : hp P (execOp (evE n e) o) (nextE P K) h := by
  obtain ⟨i, h1, h2⟩ := Option.map_eq_some_iff.1 hz
  obtain ⟨new, hl, hall, hsrc, hM⟩ := hM
  rw [hop, toVal, hp_bindE]
  have e0 : (#[t, t2] : Array TypeId)[0]? = some t := rfl
  have e2 : (#[Value.slice d dn dc, .slice s sn sc] : Array Value)[0]? = some (.slice d dn dc) := rfl
  have e3 : (#[Value.slice d dn dc, .slice s sn sc] : Array Value)[1]? = some (.slice s sn sc) := rfl
  have hfirst : ∀ {Q : Array Value → Heap → Prop}, Q new.toArray h → hp P (Builtin.firstCells sz (Nat.min sn dn) (.slice s sn sc)) Q h := by
    intro Q hQ
    cases s with
    | none => obtain rfl : new = [] := hsrc; exact hQ
    | some b => exact hp_loadCells new hsrc _ hl.symm hQ
  simp only [Builtin.copy_, e0, e2, e3, semBind, semPure, hp_bindE, hp_underlying hu, hp_sizeOf h1, h2, hp_pureE, Builtin.lenOf]
  refine hfirst ?_
  cases d with
  | none => exact k _ hM
  | some a =>
    simp only [hp_bindE]
    exact hp_storeCells (fun h' hk => k h' hk) new 0 h hall hM
def clM (h : Heap) (z : List Value) (a : Option Addr) (n : Nat) (K : Heap → Prop) : Prop := match a with | none => K h | some p => stN p (zeros z n) 0 h K
theorem hpCl {P : Program} {n : Nat} {e : Env} {h : Heap} {o : Oper} {K : Value → Heap → Prop} {M : Heap → Prop} {t ty et : Nat} {zv : Value} {sz by_ : Nat} {a : Option Addr} {sn sc : Nat} (z : List Value)
    (hop : ∀ R : Next → Heap → Prop, hp P (execOp (evE n e) o) R h = hp P (toVal (Builtin.clear_ #[t] ty #[.slice a sn sc])) R h)
    (hu : P.underlying t = some (.slice et)) (hi : (P.info? et).map (fun i => (i.zero, i.size, i.bytes)) = some (some zv, sz, by_)) (hzc : zv.cells = z.toArray) (hpos : 0 < z.length) (hall : z.all oneV = true)
    (hM : clM h z a sn M) (k : ∀ h', M h' → K (.tuple #[]) h') : hp P (execOp (evE n e) o) (nextE P K) h := by
  obtain ⟨i, h1, h2, h3, h4⟩ := info_of hi
  rw [hop, toVal, hp_bindE]
  have e0 : (#[t] : Array TypeId)[0]? = some t := rfl
  have e2 : (#[Value.slice a sn sc] : Array Value)[0]? = some (.slice a sn sc) := rfl
  cases a with
  | none =>
    simp only [Builtin.clear_, e0, e2, semBind, semPure, hp_bindE, hp_underlying hu, hp_pureE]
    exact k _ hM
  | some p =>
    cases sn with
    | zero =>
      simp only [Builtin.clear_, e0, e2, semBind, semPure, hp_bindE, hp_underlying hu, hp_pureE]
      exact k _ (by simpa [clM, zeros, stN] using hM)
    | succ m =>
      simp only [Builtin.clear_, e0, e2, semBind, semPure, hp_bindE, hp_underlying hu, hp_pureE, hp_zeroValue h1 h2, hzc, zeroCells_eq z hpos]
      refine hp_storeCells (fun h' hk => k h' hk) _ 0 h ?_ ?_
      · simp only [zeros, List.all_flatten, List.all_replicate]
        simp [hall]
      · exact hM
theorem rd_sAHi {P : Program} {h : Heap} {t el sz m : Nat} {a : Addr} {k : IntKind} {i : Int} {r : Option Next} (hu : P.underlying t = some (.array m el)) (hz : (P.info? el).map (·.size) = some sz) (hm : 0 < m) (h0 : 0 ≤ i) (h1 : i ≤ (m : Int))
    (hk : r = rd P (toVal (Instr.sliceAt t (.pointer (some a)) none (some (.int k i)) none)) h) : r = some (.value (.slice (some a) i.toNat m)) := by
  have hin : (0 ≤ i ∧ i ≤ (m : Int)) := ⟨h0, h1⟩
  have e : rd P (Instr.sliceAt t (.pointer (some a)) none (some (.int k i)) none) h = some (.slice (some a) i.toNat m) := by
    unfold Instr.sliceAt
    simp only [semBind, semPure, rd_bind, rd_underlying hu, Option.bind_some, Instr.sureAddr, rd, Instr.sliceBounds, Instr.sliceBound, asIntOf, if_pos hin, Option.isSome_none, Bool.false_eq_true, if_false, rd_sizeOf' hz]
    rw [if_neg (by omega), Nat.zero_mul]
    rfl
  rw [hk, toVal, rd_bind, e]
  rfl
/-! ### The steps that are alike, in few words -/
section
variable {P : Program} {n : Nat} {Q : Exit → Env → Heap → Prop} {e : Env} {h : Heap} {ops : Array Oper} {o : Oper} {rest : List Oper} {d : Nat} {L : Held} {fuel : Nat} {listed : Array Bool}
theorem oL (v : Value) (a : Addr) (hc : cellH h a = some v) (k : owp P ops n Q rest (upd e d v) h) (hd : o.dst = some d := by rfl) (hg : Region.wanted o (yieldE ops n e) = true := by kernel_rfl)
    (hop : rd P (execOp (evE n e) o) h = (cellH h a).bind fun x => some (.value x) := by kernel_rfl) : owp P ops n Q (o :: rest) e h := owp_rdG v hd hg (hop.trans (bindE hc _)) k
theorem kp (i : Nat) {oi : Oper} (A : List Nat) (v : Value) (hk : kwp P ops n Q fuel L (listed.setIfInBounds i true) (upd e d v) h) (hb : takeB ops listed i A = true := by kernel_rfl) (hi : ops[i]? = some oi := by rfl) (hd : oi.dst = some d := by rfl)
    (hw : Region.wanted oi (yieldE ops n e) = true := by kernel_rfl) (hop : ∀ h', rd P (execOp (evE n e) oi) h' = some (.value v) := by intro h'; kernel_rfl) (hL : allK i L = true := by kernel_rfl) : kwp P ops n Q (fuel + 1) L listed e h :=
  k_pure A v hb hi hd hw hop hL hk
theorem kl (i : Nat) {oi : Oper} (v : Value) (a : Addr) (A kill : List Nat) (hc : cellH h a = some v) (hk : kwp P ops n Q fuel ((fun j => !kill.contains j, fun h' => cellH h' a = some v ∧ True) :: L) (listed.setIfInBounds i true) (upd e d v) h)
    (hb : takeB ops listed i A = true := by kernel_rfl) (hkA : kill.all (A.contains ·) = true := by kernel_rfl) (hi : ops[i]? = some oi := by rfl) (hd : oi.dst = some d := by rfl)
    (hw : Region.wanted oi (yieldE ops n e) = true := by kernel_rfl) (hop : ∀ h', rd P (execOp (evE n e) oi) h' = (cellH h' a).bind fun x => some (.value x) := by intro h'; kernel_rfl) (hL : allK i L = true := by kernel_rfl) : kwp P ops n Q (fuel + 1) L listed e h :=
  k_load v (fun h' => cellH h' a = some v ∧ True) A kill hb hkA hi hd hw (fun h' hS => (hop h').trans (bindE hS.1 _)) ⟨hc, trivial⟩ hL hk
theorem oG (ho : hp P (execOp (evE n e) o) (nextE P fun v h' => owp P ops n Q rest (upd e d v) h') h) (hd : o.dst = some d := by rfl) (hg : Region.wanted o (yieldE ops n e) = true := by kernel_rfl) : owp P ops n Q (o :: rest) e h := owp_hpG hd hg ho
theorem oT {M : Heap → Prop} (a : Addr) (vs : List Value) (hM : stN a vs 0 h M) (k : ∀ h', M h' → owp P ops n Q rest e h') (hop : ∀ R : Next → Heap → Prop, hp P (execOp (evE n e) o) R h = hp P (storeCells a vs 0) (fun _ h' => R .skip h') h := by intro _; kernel_rfl) (h1 : vs.all oneV = true := by kernel_rfl)
    (hd : o.dst = none := by rfl) (hg : Region.wanted o (yieldE ops n e) = true := by kernel_rfl) : owp P ops n Q (o :: rest) e h := owp_hpD hd hg (hpSt a vs hop h1 hM k)
theorem oA (t : Nat) (b q : Bool) {l : List Oper} (hq : q = b) (k : owp P ops n Q l (upd e t (.bool b)) h) (hv : e t = .bool q := by kernel_rfl) : owp P ops n Q l e h := owp_at t (.bool b) (hv.trans (congrArg Value.bool hq)) k
theorem kA (t : Nat) (b q : Bool) (hq : q = b) (k : kwp P ops n Q fuel L listed (upd e t (.bool b)) h) (hv : e t = .bool q := by kernel_rfl) : kwp P ops n Q fuel L listed e h := kwp_at t (.bool b) (hv.trans (congrArg Value.bool hq)) k
theorem oZ (vs : List (Nat × Value)) {l : List Oper} (hq : owp P ops n Q rest (updL e vs) h) (hr : dropO vs.length l = some rest := by rfl) (hs : segRun P ops n h vs.length l e = some (updL e vs) := by kernel_rfl) : owp P ops n Q l e h := oS vs hr hq hs
theorem cA {c : Code} (t : Nat) (v : Value) (hq : cwp P c n Q (upd e t v) h) (hv : e t = v := by kernel_rfl) : cwp P c n Q e h := cwp_at t v hv hq
theorem lA {c : Code} {k : Nat} (t : Nat) (v : Value) (hq : lwp P c n Q k (upd e t v) h) (hv : e t = v := by kernel_rfl) : lwp P c n Q k e h := lwp_at t v hv hq
theorem kE (j : Nat) (ho : hp P (execOp (evE n e) o) (nextE P fun v h' => allS (keepL j L) h' ∧ kwp P ops n Q fuel (keepL j L) (listed.setIfInBounds j true) (upd e d v) h') h) (hr : Region.ready .any ops listed = [j] := by kernel_rfl) (hj : ops[j]? = some o := by rfl) (hd : o.dst = some d := by rfl)
    (hg : Region.wanted o (yieldE ops n e) = true := by kernel_rfl) : kwp P ops n Q (fuel + 1) L listed e h := k_eff hr hj hd hg ho
theorem kD (j : Nat) (ho : hp P (execOp (evE n e) o) (nextE P fun _ h' => allS (keepL j L) h' ∧ kwp P ops n Q fuel (keepL j L) (listed.setIfInBounds j true) e h') h) (hr : Region.ready .any ops listed = [j] := by kernel_rfl) (hj : ops[j]? = some o := by rfl) (hd : o.dst = none := by rfl)
    (hg : Region.wanted o (yieldE ops n e) = true := by kernel_rfl) : kwp P ops n Q (fuel + 1) L listed e h := k_effD hr hj hd hg ho
/-- Those that wait for i, at last. -/
def takeA (ops : Array Oper) (listed : Array Bool) (i : Nat) : List Nat :=
  (List.range ops.size).foldl (fun acc j => cond (!listed.getD j true && (match ops[j]? with
    | some oj => oj.after.any fun ed => Region.binds .any ed && (ed.on == i || acc.contains ed.on)
    | none => false)) (acc ++ [j]) acc) []
theorem kq (i : Nat) {oi : Oper} (v : Value) (hk : kwp P ops n Q fuel L (listed.setIfInBounds i true) (upd e d v) h) (hb : takeB ops listed i (takeA ops listed i) = true := by kernel_rfl) (hi : ops[i]? = some oi := by rfl) (hd : oi.dst = some d := by rfl)
    (hw : Region.wanted oi (yieldE ops n e) = true := by kernel_rfl) (hop : ∀ h', rd P (execOp (evE n e) oi) h' = some (.value v) := by intro h'; kernel_rfl) (hL : allK i L = true := by kernel_rfl) : kwp P ops n Q (fuel + 1) L listed e h :=
  k_pure _ v hb hi hd hw hop hL hk
theorem km (i : Nat) {oi : Oper} (hk : kwp P ops n Q fuel L (listed.setIfInBounds i true) (upd e d undef) h) (hb : takeB ops listed i (takeA ops listed i) = true := by kernel_rfl) (hi : ops[i]? = some oi := by rfl) (hd : oi.dst = some d := by rfl)
    (hw : Region.wanted oi (yieldE ops n e) = false := by kernel_rfl) (hL : allK i L = true := by kernel_rfl) : kwp P ops n Q (fuel + 1) L listed e h :=
  k_not _ hb hi hd hw hL hk
end
end Go.Hp
