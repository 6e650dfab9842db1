/-
  THE WORDS OF THE FUNCTIONS THAT ARE PRINTED FOR THE CODE, AND THE STEPS THAT LEAD FROM THEM TO THE CODE. Own work; no program.
-/
import Derived.Test.YthjdnhhifjpidaaGreatDoorHpDraw
import Derived.ChangeAlike
import Derived.RowKit3
import Derived.Laws.StructEq
import Derived.Laws.Append
set_option linter.unusedVariables false
set_option linter.unusedSimpArgs false
namespace Go.Hp

/-! ### Memory that has grown -/
def Ext (h h' : Heap) : Prop := h.size ≤ h'.size ∧ (∀ k, k < h.size → h'[k]? = h[k]?) ∧ True
theorem Ext.refl (h : Heap) : Ext h h := ⟨Nat.le_refl _, fun _ _ => rfl, trivial⟩
theorem Ext.trans {a b c : Heap} (h : Ext a b) (k : Ext b c) : Ext a c :=
  ⟨Nat.le_trans h.1 k.1, fun i hi => (k.2.1 i (Nat.lt_of_lt_of_le hi h.1)).trans (h.2.1 i hi), trivial⟩
theorem Ext.push (h : Heap) (c : Array Value) (t : TypeId) : Ext h (h.push (.cells c t)) := ⟨by simp, fun k hk => by rw [Array.getElem?_push_lt hk, Array.getElem?_eq_getElem hk], trivial⟩
theorem cell_lt {h : Heap} {a : Addr} {v : Value} (hc : cellH h a = some v) : a.block < h.size := by
  unfold cellH at hc
  rcases Nat.lt_or_ge a.block h.size with hl | hl
  · exact hl
  · rw [Array.getElem?_eq_none hl] at hc; cases hc
theorem Ext.cell {h h' : Heap} (he : Ext h h') {a : Addr} {v : Value} (hc : cellH h a = some v) : cellH h' a = some v := by
  have hl := cell_lt hc
  unfold cellH at *
  rw [he.2.1 _ hl]
  exact hc
theorem setH_size (h : Heap) (a : Addr) (v : Value) : (setH h a v).size = h.size := by simp [setH]
theorem setH_other {h : Heap} {a : Addr} {v : Value} {k : Nat} (hk : a.block ≠ k) : (setH h a v)[k]? = h[k]? := by
  unfold setH
  rw [Array.getElem?_modify, if_neg hk]
theorem Ext.set {h h' : Heap} (he : Ext h h') {a : Addr} {v : Value} (hge : h.size ≤ a.block) : Ext h (setH h' a v) :=
  ⟨by rw [setH_size]; exact he.1, fun k hk => (setH_other (by omega)).trans (he.2.1 k hk), trivial⟩

/-- A block whose cells are known. -/
def Blk (h : Heap) (b : Nat) (c : Array Value) (t : TypeId) : Prop := h[b]? = some (.cells c t (0, 0))
theorem Blk.lt {h : Heap} {b : Nat} {c : Array Value} {t : TypeId} (hb : Blk h b c t) : b < h.size := (Array.getElem?_eq_some_iff.1 hb).1
theorem Blk.cell {h : Heap} {b : Nat} {c : Array Value} {t : TypeId} (hb : Blk h b c t) (k : Nat) {v : Value} (hv : c[k]? = some v) : cellH h ⟨b, k, none⟩ = some v := by
  unfold cellH
  rw [show h[(⟨b, k, none⟩ : Addr).block]? = _ from hb]
  exact hv
theorem Blk.frozen {h : Heap} {b : Nat} {c : Array Value} {t : TypeId} (hb : Blk h b c t) (k : Nat) : frozenH h ⟨b, k, none⟩ = false := by
  unfold frozenH
  rw [show h[(⟨b, k, none⟩ : Addr).block]? = _ from hb]
  simp
theorem Blk.ext {h h' : Heap} {b : Nat} {c : Array Value} {t : TypeId} (hb : Blk h b c t) (he : Ext h h') : Blk h' b c t := (he.2.1 b hb.lt).trans hb
theorem Blk.set {h : Heap} {b : Nat} {c : Array Value} {t : TypeId} (hb : Blk h b c t) (k : Nat) (v : Value) : Blk (setH h ⟨b, k, none⟩ v) b (c.setIfInBounds k v) t := by
  unfold Blk setH
  rw [Array.getElem?_modify, if_pos rfl]
  rw [show h[b]? = _ from hb]
  rfl
theorem Blk.other {h : Heap} {b : Nat} {c : Array Value} {t : TypeId} (hb : Blk h b c t) {a : Addr} {v : Value} (hne : a.block ≠ b) : Blk (setH h a v) b c t := (setH_other hne).trans hb

/-- A new block. -/
structure New (h : Heap) (b : Nat) (h1 : Heap) (c : Array Value) (t : TypeId) : Prop where
  b_eq : b = h.size
  h_eq : h1 = h.push (.cells c t)
theorem New.blk {h h1 : Heap} {b : Nat} {c : Array Value} {t : TypeId} (hn : New h b h1 c t) : Blk h1 b c t := by
  obtain ⟨rfl, rfl⟩ := hn
  unfold Blk
  simp
theorem New.ext {h h1 : Heap} {b : Nat} {c : Array Value} {t : TypeId} (hn : New h b h1 c t) : Ext h h1 := by
  obtain ⟨rfl, rfl⟩ := hn
  exact Ext.push _ _ _
theorem New.ne {h h1 : Heap} {b b' : Nat} {c c' : Array Value} {t t' : TypeId} (hn : New h b h1 c t) (hb : Blk h b' c' t') : b ≠ b' := by
  have := hb.lt
  have := hn.b_eq
  omega
theorem New.ge {h0 h h1 : Heap} {b : Nat} {c : Array Value} {t : TypeId} (hn : New h b h1 c t) (he : Ext h0 h) : h0.size ≤ b := by
  have := he.1
  have := hn.b_eq
  omega

/-! ### The words -/
def ldI (h : Heap) (k : IntKind) (a : Addr) (K : Int → Prop) : Prop := ∃ x, cellH h a = some (.int k x) ∧ K x
def ldB (h : Heap) (a : Addr) (K : Bool → Prop) : Prop := ∃ x, cellH h a = some (.bool x) ∧ K x
def ldS (h : Heap) (a : Addr) (K : ByteArray → Prop) : Prop := ∃ x, cellH h a = some (.string x) ∧ K x
def ldP (h : Heap) (a : Addr) (K : Option Addr → Prop) : Prop := ∃ x, cellH h a = some (.pointer x) ∧ K x
def ldL (h : Heap) (a : Addr) (K : Option Addr → Nat → Nat → Prop) : Prop := ∃ x n c, cellH h a = some (.slice x n c) ∧ K x n c
def st (h : Heap) (a : Addr) (v : Value) (K : Heap → Prop) : Prop := (∃ u, cellH h a = some u) ∧ frozenH h a = false ∧ K (setH h a v)
def stN (a : Addr) : List Value → Nat → Heap → (Heap → Prop) → Prop
  | [], _, h, K => K h
  | v :: vs, i, h, K => st h (a.add i) v fun h' => stN a vs (i + 1) h' K
def newB (h : Heap) (c : Array Value) (t : TypeId) (K : Nat → Heap → Prop) : Prop := K h.size (h.push (.cells c t))
def gap (h : Heap) (K : Heap → Prop) : Prop := ∀ h', Ext h h' → K h'
def nz (p : Option Addr) (K : Addr → Prop) : Prop := ∃ a, p = some a ∧ K a
def ex {α : Type} (o : Option α) (K : α → Prop) : Prop := ∃ r, o = some r ∧ K r
def iAnd (k : IntKind) (x y : Int) : Int := k.wrap (BitVec.ofInt k.bits x &&& BitVec.ofInt k.bits y).toNat
def iOr (k : IntKind) (x y : Int) : Int := k.wrap (BitVec.ofInt k.bits x ||| BitVec.ofInt k.bits y).toNat
def iAndNot (k : IntKind) (x y : Int) : Int := k.wrap (BitVec.ofInt k.bits x &&& ~~~(BitVec.ofInt k.bits y)).toNat

/-- A string's byte, a slice of it: what is asked. -/
def byteAt (s : ByteArray) (i : Int) : Int := (s.data.getD i.toNat 0).toNat

def imin (x y : Int) : Int := if y < x then y else x
def imax (x y : Int) : Int := if y > x then y else x
theorem rd_bind {P : Program} {α β : Type} (m : Sem α) (f : α → Sem β) (h : Heap) : rd P (m.bind f) h = (rd P m h).bind fun a => rd P (f a) h := by
  induction m with
  | pure a => rfl
  | load md a k ih =>
    simp only [Sem.bind, rd]
    cases cellH h a with
    | none => rfl
    | some v => exact ih v
  | shape r k ih => exact ih _
  | frozen a k ih => exact ih _
  | program k ih => exact ih _
  | mark m k ih => exact ih
  | _ => rfl
abbrev toVal (m : Sem Value) : Sem Next := m.bind fun v => Sem.pure (Next.value v)
theorem rd_cat {P : Program} {h : Heap} {x y : ByteArray} {r : Option Next} (hc : x.size + y.size ≤ 9223372036854775807) (hk : r = rd P (toVal (Op.stringOp .add x y)) h) : r = some (.value (.string (x ++ y))) := by
  rw [hk]
  have h1 : ¬ ((x.size + y.size : Nat) : Int) > IntKind.i64.max := by
    have e : IntKind.i64.max = 9223372036854775807 := by decide
    rw [e]; omega
  unfold toVal Op.stringOp
  simp only [h1, if_false]
  rfl
theorem rd_ixStr {P : Program} {h : Heap} {t : TypeId} {s : ByteArray} {k : IntKind} {i : Int} {r : Option Next} (hu : P.underlying t = some .string) (h0 : 0 ≤ i) (h1 : i < (s.size : Int))
    (hk : r = rd P (toVal (Instr.index t (.string s) (.int k i))) h) : r = some (.value (.int .u8 (byteAt s i))) := by
  have hlt : i.toNat < s.size := by omega
  have hs : s[i.toNat]? = some (s[i.toNat]'hlt) := getElem?_pos s i.toNat hlt
  have e : rd P (Instr.index t (.string s) (.int k i)) h = some (.int .u8 (byteAt s i)) := by
    show rd P (Sem.bind (underlying t) _) h = _
    have hu' : rd P (underlying t) h = some .string := by
      unfold underlying
      show rd P (Sem.bind (Sem.program Sem.pure) _) h = _
      simp only [Sem.bind, rd, hu]
      rfl
    rw [rd_bind, hu']
    simp only [Option.bind_some, if_pos h0, hs]
    show some (Value.int .u8 _) = some (Value.int .u8 (byteAt s i))
    have eb : ((s[i.toNat]'hlt).toNat : Int) = byteAt s i := by
      unfold byteAt
      have : s.data.getD i.toNat 0 = s[i.toNat]'hlt := by
        rw [Array.getD_eq_getD_getElem?, Array.getElem?_eq_getElem (show i.toNat < s.data.size from hlt)]
        rfl
      rw [this]
    rw [← eb]
  rw [hk, toVal, rd_bind, e]
  rfl
/-! #### '==' of structs -/
theorem semBind {α β : Type} (x : Sem α) (f : α → Sem β) : (x >>= f) = Sem.bind x f := rfl
theorem semPure {α : Type} (a : α) : (pure a : Sem α) = Sem.pure a := rfl
theorem rd_eqStruct {P : Program} {h : Heap} {d : Nat} {t : TypeId} {fs : Array Field} {xs ys : Array Value} (hu : P.underlying t = some (.struct fs)) (hp : P.stoodInHeld t = false) :
    rd P (Op.equalIn (d + 1) t (.agg xs) (.agg ys)) h = rd P (Op.eqFields d xs ys fs.toList) h := by
  have hu' : rd P (underlying t) h = some (.struct fs) := by
    unfold underlying
    show rd P (Sem.bind (Sem.program Sem.pure) _) h = _
    simp only [Sem.bind, rd, hu]
    rfl
  unfold Op.equalIn
  show rd P (Sem.bind (underlying t) _) h = _
  rw [rd_bind, hu']
  simp only [Option.bind_some]
  show rd P (Sem.bind (Sem.program Sem.pure) _) h = _
  simp only [Sem.bind, rd, hp, Bool.false_eq_true, if_false]
  rw [← Array.forIn_toList]
  generalize fs.toList = l
  simp only [semBind, semPure, rd_bind]
  induction l with
  | nil => rfl
  | cons f l ih =>
    simp only [List.forIn_cons, Op.eqFields, semBind, semPure]
    split
    · simp only [rd_bind]
      cases rd P (part f.type xs f.offset) h with
      | none => rfl
      | some a =>
        simp only [Option.bind_some]
        cases rd P (part f.type ys f.offset) h with
        | none => rfl
        | some b =>
          simp only [Option.bind_some]
          cases rd P (Op.equalIn d f.type a b) h with
          | none => rfl
          | some r =>
            cases r with
            | false => rfl
            | true =>
              simp only [Option.bind_some, Bool.not_true, Bool.false_eq_true, if_false, rd]
              simpa only [semBind, semPure, rd_bind] using ih
    · simp only [rd_bind, rd, Option.bind_some]
      simpa only [semBind, semPure, rd_bind] using ih
theorem rd_eqLast {P : Program} {h : Heap} {d : Nat} {f : Field} {xs ys : Array Value} {a b : Value} {r : Bool} (hn : (f.name == "_") = false) (ha : rd P (part f.type xs f.offset) h = some a) (hb : rd P (part f.type ys f.offset) h = some b)
    (he : rd P (Op.equalIn d f.type a b) h = some r) : rd P (Op.eqFields d xs ys [f]) h = some r := by
  have hn' : f.name ≠ "_" := by simpa using hn
  simp only [Op.eqFields, if_pos hn']
  show rd P (Sem.bind (part f.type xs f.offset) _) h = _
  rw [rd_bind, ha]
  show rd P (Sem.bind (part f.type ys f.offset) _) h = _
  rw [rd_bind, hb]
  show rd P (Sem.bind (Op.equalIn d f.type a b) _) h = _
  rw [rd_bind, he]
  cases r <;> rfl
theorem rd_eqCons {P : Program} {h : Heap} {d : Nat} {f : Field} {fs : List Field} {xs ys : Array Value} {a b : Value} {r s : Bool} (hn : (f.name == "_") = false) (ha : rd P (part f.type xs f.offset) h = some a) (hb : rd P (part f.type ys f.offset) h = some b)
    (he : rd P (Op.equalIn d f.type a b) h = some r) (hr : rd P (Op.eqFields d xs ys fs) h = some s) : rd P (Op.eqFields d xs ys (f :: fs)) h = some (r && s) := by
  have hn' : f.name ≠ "_" := by simpa using hn
  rw [Op.eqFields]
  simp only [if_pos hn']
  show rd P (Sem.bind (part f.type xs f.offset) _) h = _
  rw [rd_bind, ha]
  show rd P (Sem.bind (part f.type ys f.offset) _) h = _
  rw [rd_bind, hb]
  show rd P (Sem.bind (Op.equalIn d f.type a b) _) h = _
  rw [rd_bind, he]
  cases r
  · rfl
  · exact hr
theorem rd_eqB {P : Program} {h : Heap} {m : Sem Bool} {b : Bool} (hm : rd P m h = some b) : rd P (toVal (m.bind fun v => Sem.pure (.bool v))) h = some (.value (.bool b)) := by
  rw [toVal, rd_bind, rd_bind, hm]
  rfl
theorem rd_neB {P : Program} {h : Heap} {m : Sem Bool} {b : Bool} (hm : rd P m h = some b) : rd P (toVal (m.bind fun v => Sem.pure (.bool (!v)))) h = some (.value (.bool (!b))) := by
  rw [toVal, rd_bind, rd_bind, hm]
  rfl
theorem rd_eqNil {P : Program} {h : Heap} {t el : TypeId} {p : Option Addr} {r : Option Next} (hu : P.underlying t = some (.pointer el)) (hk : r = rd P (toVal ((Op.equal t (.pointer p) (.pointer none)).bind fun b => Sem.pure (.bool b))) h) : r = some (.value (.bool p.isNone)) := by
  have hu' : rd P (underlying t) h = some (.pointer el) := by
    unfold underlying
    show rd P (Sem.bind (Sem.program Sem.pure) _) h = _
    simp only [Sem.bind, rd, hu]
    rfl
  have e : rd P (Op.equal t (.pointer p) (.pointer none)) h = some p.isNone := by
    show rd P (Sem.bind (underlying t) _) h = _
    rw [rd_bind, hu']
    cases p <;> rfl
  rw [hk, toVal, rd_bind, rd_bind, e]
  rfl
theorem rd_neNil {P : Program} {h : Heap} {t el : TypeId} {p : Option Addr} {r : Option Next} (hu : P.underlying t = some (.pointer el)) (hk : r = rd P (toVal ((Op.equal t (.pointer p) (.pointer none)).bind fun b => Sem.pure (.bool (!b)))) h) : r = some (.value (.bool (!p.isNone))) := by
  have hu' : rd P (underlying t) h = some (.pointer el) := by
    unfold underlying
    show rd P (Sem.bind (Sem.program Sem.pure) _) h = _
    simp only [Sem.bind, rd, hu]
    rfl
  have e : rd P (Op.equal t (.pointer p) (.pointer none)) h = some p.isNone := by
    show rd P (Sem.bind (underlying t) _) h = _
    rw [rd_bind, hu']
    cases p <;> rfl
  rw [hk, toVal, rd_bind, rd_bind, e]
  rfl
theorem ifT {c : Prop} [Decidable c] {A B : Prop} (hc : c) (h : if c then A else B) : A := by rwa [if_pos hc] at h
theorem ifF {c : Prop} [Decidable c] {A B : Prop} (hc : ¬ c) (h : if c then A else B) : B := by rwa [if_neg hc] at h
theorem ifTo {c : Prop} [Decidable c] {α : Type} {a b r : α} (hc : c) (h : (if c then a else b) = r) : a = r := by rwa [if_pos hc] at h
theorem ifFo {c : Prop} [Decidable c] {α : Type} {a b r : α} (hc : ¬ c) (h : (if c then a else b) = r) : b = r := by rwa [if_neg hc] at h
/-! ### Many cells at once -/
def cellsAt (h : Heap) (a : Addr) : Nat → List Value → Prop
  | _, [] => True
  | i, v :: vs => cellH h (a.add i) = some v ∧ cellsAt h a (i + 1) vs
theorem rd_loadFrom {P : Program} {h : Heap} {a : Addr} : ∀ (vs : List Value) (i : Nat) (acc : Array Value), cellsAt h a i vs → rd P (loadCellsFrom a i vs.length acc) h = some (acc ++ vs.toArray)
  | [], _, acc, _ => by simp [loadCellsFrom, semPure, rd]
  | v :: vs, i, acc, hc => by
    simp only [List.length_cons, loadCellsFrom, semBind, rd_bind]
    have h1 : rd P (load (a.add i)) h = some v := by
      show (cellH h (a.add i)).bind _ = _
      rw [hc.1]
      rfl
    rw [h1]
    simp only [Option.bind_some]
    rw [rd_loadFrom vs (i + 1) (acc.push v) hc.2]
    simp
theorem rd_loadCells {P : Program} {h : Heap} {a : Addr} (vs : List Value) (hc : cellsAt h a 0 vs) : rd P (loadCells a vs.length) h = some vs.toArray := by
  unfold loadCells
  rw [rd_loadFrom vs 0 #[] hc]
  simp
def bytesOf (l : List Int) : ByteArray := l.foldl (fun s n => s.push (UInt8.ofNat n.toNat)) ByteArray.empty
theorem rd_bytes {P : Program} {h : Heap} {a : Addr} {c : Nat} {r : Option Next} (l : List Int) (hc : cellsAt h a 0 (l.map fun x => .int .u8 x)) (hk : r = rd P (toVal (Conv.bytesToString (.slice (some a) l.length c))) h) : r = some (.value (.string (bytesOf l))) := by
  have e : rd P (Conv.bytesToString (.slice (some a) l.length c)) h = some (.string (bytesOf l)) := by
    unfold Conv.bytesToString
    simp only [semBind, semPure, rd_bind]
    have hl : l.length = (l.map fun x => Value.int .u8 x).length := by simp
    rw [hl, rd_loadCells _ hc]
    simp only [Option.bind_some]
    rw [← Array.forIn_toList]
    simp only [List.forIn_map]
    have key : ∀ (l : List Int) (s : ByteArray), rd P (forIn l s fun x (r : ByteArray) => (Sem.pure (ForInStep.yield (r.push (UInt8.ofNat x.toNat))) : Sem (ForInStep ByteArray))) h = some (l.foldl (fun s n => s.push (UInt8.ofNat n.toNat)) s) := by
      intro l
      induction l with
      | nil => intro s; rfl
      | cons x l ih => intro s; rw [List.forIn_cons]; exact ih _
    exact (congrArg (fun o => Option.bind o fun a => rd P (Sem.pure (Value.string a)) h) (key l ByteArray.empty))
  rw [hk, toVal, rd_bind, e]
  rfl
/-! ### Places, parts of strings -/
theorem rd_underlying {P : Program} {h : Heap} {t : TypeId} {d : TypeDesc} (hu : P.underlying t = some d) : rd P (underlying t) h = some d := by
  unfold underlying
  show rd P (Sem.bind (Sem.program Sem.pure) _) h = _
  simp only [Sem.bind, rd, hu]
  rfl
theorem rd_sizeOf' {P : Program} {h : Heap} {t sz : Nat} (hu : (P.info? t).map (·.size) = some sz) : rd P (sizeOf t) h = some sz := by
  cases hi : P.info? t with
  | none => rw [hi] at hu; cases hu
  | some i =>
    rw [hi] at hu
    unfold sizeOf typeInfo
    show rd P (Sem.bind (Sem.bind (Sem.program Sem.pure) _) _) h = _
    simp only [Sem.bind, rd, hi]
    exact hu
theorem rd_ixS {P : Program} {h : Heap} {t el sz len c : Nat} {ad : Addr} {k : IntKind} {i : Int} {r : Option Next} (hu : P.underlying t = some (.slice el)) (hz : (P.info? el).map (·.size) = some sz) (h0 : 0 ≤ i) (h1 : i < (len : Int))
    (hk : r = rd P (toVal (Instr.indexAt t (.slice (some ad) len c) (.int k i))) h) : r = some (.value (.pointer (some (ad.add (i.toNat * sz))))) := by
  have e : rd P (Instr.indexAt t (.slice (some ad) len c) (.int k i)) h = some (.pointer (some (ad.add (i.toNat * sz)))) := by
    have hin : (0 ≤ i ∧ i < (len : Int)) := ⟨h0, h1⟩
    unfold Instr.indexAt
    simp only [semBind, semPure, rd_bind, asIntOf, rd, Option.bind_some, rd_underlying hu, if_pos hin, rd_sizeOf' hz]
  rw [hk, toVal, rd_bind, e]
  rfl
theorem rd_ixA {P : Program} {h : Heap} {t el sz len : Nat} {ad : Addr} {k : IntKind} {i : Int} {r : Option Next} (hu : P.underlying t = some (.array len el)) (hz : (P.info? el).map (·.size) = some sz) (h0 : 0 ≤ i) (h1 : i < (len : Int))
    (hk : r = rd P (toVal (Instr.indexAt t (.pointer (some ad)) (.int k i))) h) : r = some (.value (.pointer (some (ad.add (i.toNat * sz))))) := by
  have e : rd P (Instr.indexAt t (.pointer (some ad)) (.int k i)) h = some (.pointer (some (ad.add (i.toNat * sz)))) := by
    have hin : (0 ≤ i ∧ i < (len : Int)) := ⟨h0, h1⟩
    unfold Instr.indexAt
    simp only [semBind, semPure, rd_bind, asIntOf, rd, Option.bind_some, rd_underlying hu, Instr.sureAddr, if_pos hin, rd_sizeOf' hz]
  rw [hk, toVal, rd_bind, e]
  rfl
theorem rd_slStr {P : Program} {h : Heap} {t : TypeId} {s : ByteArray} {lo hi : Option Value} {l e' : Nat} {r : Option Next} (hu : P.underlying t = some .string)
    (hb : rd P (Instr.sliceBounds false s.size s.size lo hi none) h = some (l, e', s.size)) (hk : r = rd P (toVal (Instr.sliceAt t (.string s) lo hi none)) h) : r = some (.value (.string (s.extract l e'))) := by
  have e : rd P (Instr.sliceAt t (.string s) lo hi none) h = some (.string (s.extract l e')) := by
    unfold Instr.sliceAt Instr.slice
    simp only [semBind, semPure, rd_bind, rd_underlying hu, Option.bind_some, Option.isSome_none, Bool.false_eq_true, if_false, hb, rd]
  rw [hk, toVal, rd_bind, e]
  rfl
theorem rd_slLo {P : Program} {h : Heap} {t : TypeId} {s : ByteArray} {k : IntKind} {i : Int} {r : Option Next} (hu : P.underlying t = some .string) (h0 : 0 ≤ i) (h1 : i ≤ (s.size : Int))
    (hk : r = rd P (toVal (Instr.sliceAt t (.string s) (some (.int k i)) none none)) h) : r = some (.value (.string (s.extract i.toNat s.size))) := by
  refine rd_slStr hu ?_ hk
  have hin : (0 ≤ i ∧ i ≤ (s.size : Int)) := ⟨h0, h1⟩
  simp only [Instr.sliceBounds, Instr.sliceBound, semBind, semPure, rd_bind, asIntOf, rd, Option.bind_some, if_pos hin, Option.isSome_none, Bool.false_eq_true, if_false]
theorem rd_slHi {P : Program} {h : Heap} {t : TypeId} {s : ByteArray} {k : IntKind} {i : Int} {r : Option Next} (hu : P.underlying t = some .string) (h0 : 0 ≤ i) (h1 : i ≤ (s.size : Int))
    (hk : r = rd P (toVal (Instr.sliceAt t (.string s) none (some (.int k i)) none)) h) : r = some (.value (.string (s.extract 0 i.toNat))) := by
  refine rd_slStr hu ?_ hk
  have hin : (0 ≤ i ∧ i ≤ (s.size : Int)) := ⟨h0, h1⟩
  simp only [Instr.sliceBounds, Instr.sliceBound, semBind, semPure, rd_bind, asIntOf, rd, Option.bind_some, if_pos hin, Bool.false_eq_true, if_false]
theorem rd_slLH {P : Program} {h : Heap} {t : TypeId} {s : ByteArray} {k k' : IntKind} {i j : Int} {r : Option Next} (hu : P.underlying t = some .string) (h0 : 0 ≤ j) (h1 : j ≤ (s.size : Int)) (h2 : 0 ≤ i) (h3 : i ≤ j)
    (hk : r = rd P (toVal (Instr.sliceAt t (.string s) (some (.int k i)) (some (.int k' j)) none)) h) : r = some (.value (.string (s.extract i.toNat j.toNat))) := by
  refine rd_slStr hu ?_ hk
  have hin : (0 ≤ j ∧ j ≤ (s.size : Int)) := ⟨h0, h1⟩
  have hin2 : (0 ≤ i ∧ i ≤ (j.toNat : Int)) := ⟨h2, by omega⟩
  simp only [Instr.sliceBounds, Instr.sliceBound, semBind, semPure, rd_bind, asIntOf, rd, Option.bind_some, if_pos hin, if_pos hin2, Option.isSome_none, Bool.false_eq_true, if_false]

/-! ### append -/
theorem hp_storeCells {P : Program} {a : Addr} {K : Heap → Prop} {R : Unit → Heap → Prop} (hR : ∀ h', K h' → R () h') : ∀ (vs : List Value) (i : Nat) (h : Heap), vs.all oneV = true → stN a vs i h K → hp P (storeCells a vs i) R h
  | [], _, h, _, hM => hR h hM
  | v :: vs, i, h, hall, hM => by
    simp only [List.all_cons, Bool.and_eq_true] at hall
    obtain ⟨hu, hf, hM⟩ := hM
    exact ⟨hall.1, hu, hf, hp_storeCells hR vs (i + 1) _ hall.2 hM⟩

def zeros (z : List Value) (n : Nat) : List Value := (List.replicate n z).flatten
/-- The cells that a slice leads to, from its head on. -/
def srcAt (h : Heap) (xb : Option Addr) (new : List Value) : Prop := match xb with
  | none => new = []
  | some b => cellsAt h b 0 new
/-- What append asks and does: 'z': an element's zero, cell by cell; 'new': the new elements' cells; m: how many they are. -/
def appH (h : Heap) (et : TypeId) (bytes : Nat) (z : List Value) (base : Option Addr) (n c : Nat) (new : List Value) (m : Nat) (K : Option Addr → Nat → Heap → Prop) : Prop :=
  (n + m) * bytes ≤ 140737488355328 ∧ n + m ≤ 9223372036854775807 ∧
  (n + m ≤ c → match base with
    | none => K none c h
    | some a => stN (a.add (n * z.length)) new 0 h fun h' => K (some a) c h') ∧
  (c < n + m → ∃ old : List Value, old.length = n * z.length ∧ srcAt h base old ∧
    ∀ nc, n + m ≤ nc → nc < 9223372036854775808 → K (some ⟨h.size, 0, none⟩) nc (h.push (.cells (old ++ new ++ zeros z (nc - (n + m))).toArray et)))
theorem zeroCells_eq (z : List Value) (hz : 0 < z.length) (n : Nat) : Builtin.zeroCells z.toArray n = (zeros z n).toArray := by
  have e : ∀ (n : Nat), (zeros z n).length = n * z.length := by
    intro n
    simp [zeros, List.length_flatten]
  apply Array.ext
  · simp [Builtin.zeroCells, e]
  · intro i h1 h2
    simp only [Builtin.zeroCells, Array.getElem_map, Array.getElem_range, List.getElem_toArray]
    have hi : i < n * z.length := by simpa [Builtin.zeroCells] using h1
    have key : ∀ (n i : Nat), i < n * z.length → (zeros z n)[i]? = z[i % z.length]? := by
      intro n
      induction n with
      | zero => intro i hi; omega
      | succ n ih =>
        intro i hi
        have hz' : zeros z (n + 1) = z ++ zeros z n := by simp [zeros, List.replicate_succ]
        rw [hz', List.getElem?_append]
        split
        · rename_i hl; rw [Nat.mod_eq_of_lt hl]
        · rename_i hl
          have : (n + 1) * z.length = n * z.length + z.length := by rw [Nat.succ_mul]
          rw [ih (i - z.length) (by omega)]
          congr 1
          conv => rhs; rw [show i = (i - z.length) + z.length by omega, Nat.add_mod_right]
    have hm : i % z.length < z.length := Nat.mod_lt _ hz
    have hk := key n i hi
    rw [List.getElem?_eq_getElem (by rw [e]; exact hi), List.getElem?_eq_getElem hm] at hk
    have hk' := Option.some.inj hk
    have hm' : i % z.toArray.size < z.toArray.size := by simpa using hm
    rw [getElem!_pos z.toArray _ hm', hk']
    simp
theorem hp_loadCells {P : Program} {h : Heap} {a : Addr} {R : Array Value → Heap → Prop} (vs : List Value) (hc : cellsAt h a 0 vs) (n : Nat) (hn : n = vs.length) (hR : R vs.toArray h) : hp P (loadCells a n) R h := by
  subst hn
  exact rd_hp _ (rd_loadCells vs hc) hR
theorem hp_askRoom {P : Program} {b : Nat} {R : Unit → Heap → Prop} {h : Heap} (hR : R () h) : hp P (askRoom b) R h := by
  unfold askRoom
  split
  · exact hR
  · exact hR
theorem hp_bindE {P : Program} {α β : Type} (m : Sem α) (f : α → Sem β) : ∀ (Q : β → Heap → Prop) (h : Heap), hp P (m.bind f) Q h = hp P m (fun a h => hp P (f a) Q h) h := by
  induction m with
  | pure a => intro Q h; rfl
  | load md a k ih => intro Q h; simp only [Sem.bind, hp, ih]
  | store md a v k ih => intro Q h; simp only [Sem.bind, hp, ih]
  | new o k ih => intro Q h; simp only [Sem.bind, hp, ih]
  | shape r k ih => intro Q h; simp only [Sem.bind, hp, ih]
  | freeze a n k ih => intro Q h; simp only [Sem.bind, hp, ih]
  | frozen a k ih => intro Q h; simp only [Sem.bind, hp, ih]
  | getObj r k ih => intro Q h; simp only [Sem.bind, hp, ih]
  | setObj r o k ih => intro Q h; simp only [Sem.bind, hp, ih]
  | choose q k ih => intro Q h; simp only [Sem.bind, hp, ih]
  | sys c k ih => intro Q h; rfl
  | program k ih => intro Q h; simp only [Sem.bind, hp, ih]
  | mark m k ih => intro Q h; simp only [Sem.bind, hp, ih]
  | halt x => intro Q h; rfl
theorem hp_pureE {P : Program} {α : Type} (a : α) (Q : α → Heap → Prop) (h : Heap) : hp P (Sem.pure a) Q h = Q a h := rfl
theorem hp_underlying {P : Program} {t : TypeId} {d : TypeDesc} (hu : P.underlying t = some d) (Q : TypeDesc → Heap → Prop) (h : Heap) : hp P (underlying t) Q h = Q d h := by
  unfold underlying
  show hp P (match P.underlying t with | some d => pure d | none => stuck "no such type") Q h = _
  rw [hu]
  rfl
theorem hp_typeInfo {P : Program} {t : TypeId} {i : TypeInfo} (hu : P.info? t = some i) (Q : TypeInfo → Heap → Prop) (h : Heap) : hp P (typeInfo t) Q h = Q i h := by
  unfold typeInfo
  show hp P (match P.info? t with | some i => pure i | none => stuck "no such type") Q h = _
  rw [hu]
  rfl
theorem hp_sizeOf {P : Program} {t : TypeId} {i : TypeInfo} (hu : P.info? t = some i) (Q : Nat → Heap → Prop) (h : Heap) : hp P (sizeOf t) Q h = Q i.size h := by
  unfold sizeOf
  simp only [semBind, semPure, hp_bindE, hp_typeInfo hu, hp_pureE]
theorem hp_zeroValue {P : Program} {t : TypeId} {i : TypeInfo} {v : Value} (hu : P.info? t = some i) (hz : i.zero = some v) (Q : Value → Heap → Prop) (h : Heap) : hp P (zeroValue t) Q h = Q v h := by
  unfold zeroValue
  simp only [semBind, semPure, hp_bindE, hp_typeInfo hu, hz, hp_pureE]
theorem hp_append {P : Program} {h : Heap} {t ty et : TypeId} {i : TypeInfo} {zv : Value} {base xb : Option Addr} {n c m xc : Nat} {new : List Value} {K : Option Addr → Nat → Heap → Prop} {R : Value → Heap → Prop}
    (hu : P.underlying t = some (.slice et)) (hi : P.info? et = some i) (hz : i.zero = some zv) (z : List Value) (hzc : zv.cells = z.toArray) (hzs : i.size = z.length) (hpos : 0 < z.length)
    (hnl : new.length = m * z.length) (hall : new.all oneV = true) (hnew : srcAt h xb new)
    (hM : appH h et i.bytes z base n c new m K) (hK : ∀ a c' h', K a c' h' → R (.slice a (n + m) c') h') : hp P (Builtin.append_ #[t, t] ty #[.slice base n c, .slice xb m xc]) R h := by
  obtain ⟨hb1, hb2, hroom, hgrow⟩ := hM
  have hfirst : ∀ {Q : Array Value → Heap → Prop}, Q new.toArray h → hp P (Builtin.firstCells z.length m (.slice xb m xc)) Q h := by
    intro Q hQ
    cases xb with
    | none => obtain rfl : new = [] := hnew; exact hQ
    | some b => exact hp_loadCells new hnew _ hnl.symm hQ
  have hmax : IntKind.i64.max = 9223372036854775807 := by decide
  have e0 : (#[t, t] : Array TypeId)[0]? = some t := rfl
  have e1 : (#[t, t] : Array TypeId)[1]? = some t := rfl
  have e2 : (#[Value.slice base n c, .slice xb m xc] : Array Value)[0]? = some (.slice base n c) := rfl
  have e3 : (#[Value.slice base n c, .slice xb m xc] : Array Value)[1]? = some (.slice xb m xc) := rfl
  simp only [Builtin.append_, e0, e1, e2, e3, semBind, semPure, hp_bindE, hp_underlying hu, hp_sizeOf hi, hp_pureE, Bool.false_eq_true, if_false, Builtin.lenOf, Bool.not_false, if_true, hzs]
  by_cases hc : n + m ≤ c
  · rw [if_pos hc]
    have hM := hroom hc
    simp only [hp_bindE]
    refine hfirst ?_
    cases base with
    | none => exact hK _ _ _ hM
    | some a =>
      simp only [hp_bindE]
      exact hp_storeCells (fun h' hk => hK _ _ _ hk) new 0 h hall (by simpa using hM)
  · rw [if_neg hc]
    obtain ⟨old, hol, hold, hk⟩ := hgrow (by omega)
    simp only [hp_bindE, hp_typeInfo hi]
    have g1 : ¬ (((n + m : Nat) : Int) > IntKind.i64.max ∧ (False ∨ i.bytes = 0)) := by rw [hmax]; omega
    rw [if_neg g1]
    have g2 : ¬ (Builtin.nextslicecap (n + m) c * i.bytes > 2 ^ 48) := by
      have := growslice_fits (bytes := i.bytes) (show c < n + m by omega) hb1
      omega
    simp only [hp_bindE, hp_typeInfo hi]
    rw [if_neg g2]
    simp only [hp_bindE]
    show hp P (Sem.choose (.appendCap (n + m) c et) Sem.pure) _ h
    refine ⟨fun hf => (by cases hf), fun _ tt => ?_⟩
    simp only [hp_pureE, hp_bindE, hp_typeInfo hi]
    refine hp_askRoom ?_
    have hold' : ∀ {Q : Array Value → Heap → Prop}, Q old.toArray h → hp P (Builtin.firstCells z.length n (.slice base n c)) Q h := by
      intro Q hQ
      cases base with
      | none => obtain rfl : old = [] := hold; exact hQ
      | some b => exact hp_loadCells old hold _ hol.symm hQ
    refine hold' ?_
    refine hfirst ?_
    simp only [hp_zeroValue hi hz, hzc, zeroCells_eq z hpos]
    have hlt : 0 < 2 ^ 63 - (n + m) := by omega
    have hcut : (Question.appendCap (n + m) c et).cut tt = n + m + tt % (2 ^ 63 - (n + m)) := rfl
    have hmod := Nat.mod_lt tt hlt
    have := hk (n + m + tt % (2 ^ 63 - (n + m))) (by omega) (by omega)
    simp only [newRow, newObj, semBind, semPure, hp_bindE, hp_pureE]
    show R (Value.slice (some ⟨h.size, 0, none⟩) (n + m) _) (h.push _)
    refine hK _ _ _ ?_
    rw [hcut]
    simpa using this
/-! ### The steps -/
theorem thenE_n {next : Env → Heap → Prop} {Q : Exit → Env → Heap → Prop} {e : Env} {h : Heap} (hq : next e h) : thenE next Q .normal e h := hq
theorem thenE_x {next : Env → Heap → Prop} {Q : Exit → Env → Heap → Prop} {id : Nat} {e : Env} {h : Heap} (hq : Q (.exit id) e h) : thenE next Q (.exit id) e h := hq
theorem thenE_r {next : Env → Heap → Prop} {Q : Exit → Env → Heap → Prop} {e : Env} {h : Heap} (hq : Q .ret e h) : thenE next Q .ret e h := hq
theorem blockE_n {Q : Exit → Env → Heap → Prop} {i : Nat} {e : Env} {h : Heap} (hq : Q .normal e h) : blockE i Q .normal e h := hq
theorem blockE_r {Q : Exit → Env → Heap → Prop} {i : Nat} {e : Env} {h : Heap} (hq : Q .ret e h) : blockE i Q .ret e h := hq
theorem blockE_h {Q : Exit → Env → Heap → Prop} {i : Nat} {e : Env} {h : Heap} (hq : Q .normal e h) : blockE i Q (.exit i) e h := by
  show (if i = i then _ else _)
  rw [if_pos rfl]
  exact hq
theorem blockE_x {Q : Exit → Env → Heap → Prop} {i j : Nat} {e : Env} {h : Heap} (hne : Nat.beq j i = false) (hq : Q (.exit j) e h) : blockE i Q (.exit j) e h := by
  show (if j = i then _ else _)
  rw [if_neg (fun he => by subst he; rw [Nat.beq_refl] at hne; cases hne)]
  exact hq
theorem q_at {Q : Env → Heap → Prop} {e : Env} {h : Heap} (t : Nat) (v : Value) (hv : e t = v) (hq : Q (upd e t v) h) : Q e h := by rwa [upd_of e t hv] at hq

section
variable {P : Program} {n : Nat} {Q : Exit → Env → Heap → Prop} {e : Env} {h : Heap} {ops : Array Oper} {o : Oper} {rest : List Oper} {d : Nat}

theorem cwp_at {c : Code} (t : Nat) (v : Value) (hv : e t = v) (hq : cwp P c n Q (upd e t v) h) : cwp P c n Q e h := by rwa [upd_of e t hv] at hq
theorem lwp_at {c : Code} {k : Nat} (t : Nat) (v : Value) (hv : e t = v) (hq : lwp P c n Q k (upd e t v) h) : lwp P c n Q k e h := by rwa [upd_of e t hv] at hq
theorem lwp_succ {c : Code} {k : Nat} (hq : cwp P c n (thenE (lwp P c n Q k) Q) e h) : lwp P c n Q (k + 1) e h := hq
/-- A part of a function's code. -/
def walk : List Nat → Code → Option Code
  | [], c => some c
  | 0 :: p, .seq a _ => walk p a
  | 1 :: p, .seq _ b => walk p b
  | 0 :: p, .cond _ a _ => walk p a
  | 1 :: p, .cond _ _ b => walk p b
  | 0 :: p, .block _ a => walk p a
  | 0 :: p, .loop a => walk p a
  | 0 :: p, .scope a => walk p a
  | _, _ => none
def partC (fn : Func) (p : List Nat) : Code := (fn.body.bind (walk p)).getD .skip
theorem cwp_part {fn : Func} {p : List Nat} {c : Code} (hp : fn.body.bind (walk p) = some c) (hc : cwp P c n Q e h) : cwp P (partC fn p) n Q e h := by
  unfold partC
  rw [hp]
  exact hc
theorem cwp_condD {c : Operand} {x y : Code} (p : Prop) [Decidable p] (hc : evE n e c = .bool (decide p)) (ht : p → cwp P x n Q e h) (hf : ¬ p → cwp P y n Q e h) : cwp P (.cond c x y) n Q e h :=
  cwp_cond hc (fun hh => ht (of_decide_eq_true hh)) (fun hh => hf (of_decide_eq_false hh))
theorem cwp_condN {c : Operand} {x y : Code} (p : Prop) [Decidable p] (hc : evE n e c = .bool (!decide p)) (hf : p → cwp P y n Q e h) (ht : ¬ p → cwp P x n Q e h) : cwp P (.cond c x y) n Q e h :=
  cwp_cond hc (fun hh => ht (by simpa using hh)) (fun hh => hf (by simpa using hh))
theorem cwp_condB {c : Operand} {x y : Code} (b : Bool) (hc : evE n e c = .bool b) (ht : b = true → cwp P x n Q e h) (hf : ¬ b = true → cwp P y n Q e h) : cwp P (.cond c x y) n Q e h :=
  cwp_cond hc ht (fun hh => hf (by rw [hh]; simp))

/-! #### What an operation comes to, wherever it stands -/
theorem hpNew {K : Value → Heap → Prop} (c : Array Value) (t : TypeId) (hop : ∀ R : Next → Heap → Prop, hp P (execOp (evE n e) o) R h = R (.value (.pointer (some ⟨h.size, 0, none⟩))) (h.push (.cells c t)))
    (k : ∀ b h1, New h b h1 c t → K (.pointer (some ⟨b, 0, none⟩)) h1) : hp P (execOp (evE n e) o) (nextE P K) h := by rw [hop]; exact k _ _ ⟨rfl, rfl⟩
/-- A slice that is laid (a literal). -/
theorem hpNewS {K : Value → Heap → Prop} (c : Array Value) (t m : Nat) (hop : ∀ R : Next → Heap → Prop, hp P (execOp (evE n e) o) R h = R (.value (.slice (some ⟨h.size, 0, none⟩) m m)) (h.push (.cells c t)))
    (k : ∀ b h1, New h b h1 c t → K (.slice (some ⟨b, 0, none⟩) m m) h1) : hp P (execOp (evE n e) o) (nextE P K) h := by rw [hop]; exact k _ _ ⟨rfl, rfl⟩
theorem newB_of {c : Array Value} {t : TypeId} {b : Nat} {h1 : Heap} {K : Nat → Heap → Prop} (hn : New h b h1 c t) (hM : newB h c t K) : K b h1 := by
  obtain ⟨rfl, rfl⟩ := hn
  exact hM
theorem hpSt {K : Value → Heap → Prop} {M : Heap → Prop} (a : Addr) (vs : List Value) (hop : ∀ R : Next → Heap → Prop, hp P (execOp (evE n e) o) R h = hp P (storeCells a vs 0) (fun _ h' => R .skip h') h) (h1 : vs.all oneV = true)
    (hM : stN a vs 0 h M) (k : ∀ h', M h' → K undef h') : hp P (execOp (evE n e) o) (nextE P K) h := by rw [hop]; exact hp_storeCells (fun h' hk => k h' hk) vs 0 _ h1 hM
theorem info_of {P : Program} {t : TypeId} {z : Value} {sz by_ : Nat} (h : (P.info? t).map (fun i => (i.zero, i.size, i.bytes)) = some (some z, sz, by_)) : ∃ i, P.info? t = some i ∧ i.zero = some z ∧ i.size = sz ∧ i.bytes = by_ := by
  cases hi : P.info? t with
  | none => rw [hi] at h; cases h
  | some i =>
    rw [hi] at h
    simp only [Option.map_some, Option.some.injEq, Prod.mk.injEq] at h
    exact ⟨i, rfl, h.1, h.2.1, h.2.2⟩
/-- append of what is known. -/
theorem hpApp {K : Value → Heap → Prop} {M : Option Addr → Nat → Heap → Prop} {t ty et : TypeId} {zv : Value} {sz by_ : Nat} {base xb : Option Addr} {n' c m xc : Nat} {new : List Value}
    (hop : ∀ R : Next → Heap → Prop, hp P (execOp (evE n e) o) R h = hp P (toVal (Builtin.append_ #[t, t] ty #[.slice base n' c, .slice xb m xc])) R h)
    (hu : P.underlying t = some (.slice et)) (hi : (P.info? et).map (fun i => (i.zero, i.size, i.bytes)) = some (some zv, sz, by_)) (z : List Value) (hzc : zv.cells = z.toArray) (hzs : sz = z.length) (hpos : 0 < z.length)
    (hnl : new.length = m * z.length) (hall : new.all oneV = true) (hnew : srcAt h xb new)
    (hM : appH h et by_ z base n' c new m M) (k : ∀ a c' h', M a c' h' → K (.slice a (n' + m) c') h') : hp P (execOp (evE n e) o) (nextE P K) h := by
  obtain ⟨i, h1, h2, h3, h4⟩ := info_of hi
  subst h3; subst h4
  rw [hop, toVal, hp_bindE]
  exact hp_append (K := M) hu h1 h2 z hzc hzs hpos hnl hall hnew hM k
/-- append of a slice's elements. -/
def appS (h : Heap) (et : TypeId) (by_ : Nat) (z : List Value) (base : Option Addr) (n c : Nat) (xb : Option Addr) (m : Nat) (K : Option Addr → Nat → Heap → Prop) : Prop :=
  ∃ new : List Value, new.length = m * z.length ∧ new.all oneV = true ∧ srcAt h xb new ∧ appH h et by_ z base n c new m K
/-- Stores into a block that is known. -/
def setL (c : Array Value) (off : Nat) : List Value → Array Value
  | [] => c
  | v :: vs => setL (c.setIfInBounds off v) (off + 1) vs
structure Put (h : Heap) (b : Nat) (h1 : Heap) (c : Array Value) (t : TypeId) : Prop where
  blk : Blk h1 b c t
  size : h1.size = h.size
  other : ∀ k, k ≠ b → h1[k]? = h[k]?
theorem hpStB_aux {b : Nat} {t : TypeId} {K : Heap → Prop} {R : Unit → Heap → Prop} (hR : ∀ h', K h' → R () h') : ∀ (vs : List Value) (i off : Nat) (h : Heap) (c : Array Value), vs.all oneV = true → Blk h b c t → off + i + vs.length ≤ c.size →
    (∀ h1, Put h b h1 (setL c (off + i) vs) t → K h1) → hp P (storeCells (⟨b, off, none⟩ : Addr) vs i) R h
  | [], _, _, h, c, _, hb, _, hk => hR h (hk h ⟨hb, rfl, fun _ _ => rfl⟩)
  | v :: vs, i, off, h, c, hall, hb, hle, hk => by
    simp only [List.all_cons, Bool.and_eq_true] at hall
    simp only [List.length_cons] at hle
    have hadd : (⟨b, off, none⟩ : Addr).add i = ⟨b, off + i, none⟩ := by
      unfold Addr.add
      split
      · rename_i h0; subst h0; rfl
      · rfl
    refine ⟨hall.1, ?_, ?_, ?_⟩
    · rw [hadd]; exact ⟨_, hb.cell (off + i) (Array.getElem?_eq_getElem (by omega))⟩
    · rw [hadd]; exact hb.frozen _
    · rw [hadd]
      refine hpStB_aux hR vs (i + 1) off _ _ hall.2 (hb.set (off + i) v) (by simp; omega) fun h1 hp => ?_
      refine hk h1 ⟨hp.blk, by rw [hp.size, setH_size], fun k hne => ?_⟩
      rw [hp.other k hne, setH_other (a := ⟨b, off + i, none⟩) (Ne.symm hne)]
theorem hpStB {K : Value → Heap → Prop} (b off : Nat) (vs : List Value) {c : Array Value} {t : TypeId} (hb : Blk h b c t) (hop : ∀ R : Next → Heap → Prop, hp P (execOp (evE n e) o) R h = hp P (storeCells ⟨b, off, none⟩ vs 0) (fun _ h' => R .skip h') h)
    (h1 : vs.all oneV = true) (hle : Nat.ble (off + vs.length) c.size = true) (k : ∀ h1, Put h b h1 (setL c off vs) t → K undef h1) : hp P (execOp (evE n e) o) (nextE P K) h := by
  rw [hop]
  exact hpStB_aux (K := fun h' => K undef h') (fun _ hh => hh) vs 0 off h c h1 hb (Nat.le_of_ble_eq_true hle) k
theorem Put.old {h1 : Heap} {b b' : Nat} {c c' : Array Value} {t t' : TypeId} (hp : Put h b h1 c t) (hb : Blk h b' c' t') (hne : b' ≠ b) : Blk h1 b' c' t' := (hp.other b' hne).trans hb
theorem Put.ext {h0 h1 : Heap} {b : Nat} {c : Array Value} {t : TypeId} (hp : Put h b h1 c t) (he : Ext h0 h) (hge : h0.size ≤ b) : Ext h0 h1 :=
  ⟨by rw [hp.size]; exact he.1, fun k hk => (hp.other k (by omega)).trans (he.2.1 k hk), trivial⟩
theorem hpCallP {K : Value → Heap → Prop} (f : FuncId) (args : Array Value) (v : Value) (hop : rd P (execOp (evE n e) o) h = some (.enter f args))
    (hc : CallsH P f args (fun v' h' => v' = v ∧ Ext h h') h) (k : ∀ h', Ext h h' → K v h') : hp P (execOp (evE n e) o) (nextE P K) h :=
  rd_hp _ hop (hc.mono fun _ h' ⟨hv, he⟩ => by subst hv; exact k h' he)
theorem hpCallE {K : Value → Heap → Prop} {R : Value → Heap → Prop} (f : FuncId) (args : Array Value) (hop : rd P (execOp (evE n e) o) h = some (.enter f args))
    (hc : CallsH P f args R h) (k : ∀ v h', R v h' → K v h') : hp P (execOp (evE n e) o) (nextE P K) h :=
  rd_hp _ hop (hc.mono fun v h' hv => k v h' hv)

theorem owp_rdG (v : Value) (hd : o.dst = some d) (hg : Region.wanted o (yieldE ops n e) = true) (hop : rd P (execOp (evE n e) o) h = some (.value v)) (k : owp P ops n Q rest (upd e d v) h) : owp P ops n Q (o :: rest) e h :=
  owp_hpG hd hg (rd_hp _ hop k)
/-- Some operations that ask for nothing that changes, at once. -/
def dropO {α : Type} : Nat → List α → Option (List α)
  | 0, l => some l
  | k + 1, _ :: l => dropO k l
  | _ + 1, [] => none
def segN (K : Value → Option Env) : Next → Option Env
  | .value v => K v
  | _ => none
def segRun (P : Program) (ops : Array Oper) (n : Nat) (h : Heap) : Nat → List Oper → Env → Option Env
  | 0, _, e => some e
  | _ + 1, [], _ => none
  | k + 1, o :: l, e => o.dst.bind fun d => cond (Region.wanted o (yieldE ops n e)) ((rd P (execOp (evE n e) o) h).bind (segN fun v => segRun P ops n h k l (upd e d v))) (segRun P ops n h k l (upd e d undef))
def updL (e : Env) : List (Nat × Value) → Env
  | [] => e
  | p :: l => updL (upd e p.1 p.2) l
theorem owp_run {h : Heap} : ∀ (k : Nat) (l rest : List Oper) (e e' : Env), dropO k l = some rest → segRun P ops n h k l e = some e' → owp P ops n Q rest e' h → owp P ops n Q l e h
  | 0, l, rest, e, e', hr, hs, hq => by
    simp only [dropO, Option.some.injEq] at hr
    simp only [segRun, Option.some.injEq] at hs
    subst hr; subst hs
    exact hq
  | k + 1, [], rest, e, e', hr, hs, hq => by simp only [dropO] at hr; cases hr
  | k + 1, o :: l, rest, e, e', hr, hs, hq => by
    simp only [dropO] at hr
    simp only [segRun] at hs
    cases hd : o.dst with
    | none => rw [hd] at hs; cases hs
    | some d =>
      rw [hd] at hs
      simp only [Option.bind_some] at hs
      cases hw : Region.wanted o (yieldE ops n e) with
      | true =>
        rw [hw] at hs
        simp only [cond_true] at hs
        cases hv : rd P (execOp (evE n e) o) h with
        | none => rw [hv] at hs; cases hs
        | some nx =>
          rw [hv] at hs
          simp only [Option.bind_some] at hs
          cases nx <;> simp only [segN] at hs <;> first | cases hs | skip
          exact owp_hpG hd hw (rd_hp _ hv (owp_run k l rest _ e' hr hs hq))
      | false =>
        rw [hw] at hs
        simp only [cond_false] at hs
        exact owp_not hd hw (owp_run k l rest _ e' hr hs hq)
theorem oS (vs : List (Nat × Value)) {l rest : List Oper} (hr : dropO vs.length l = some rest) (hq : owp P ops n Q rest (updL e vs) h) (hs : segRun P ops n h vs.length l e = some (updL e vs) := by kernel_rfl) : owp P ops n Q l e h :=
  owp_run _ _ _ _ _ hr hs hq
/-- A part that is carried out or not, by a bool: one state behind both. -/
def iteV (c : Bool) (x y : Value) : Value := cond c x y
def updC (e : Env) (l : List Nat) (b : Bool) : Env := updL e (l.map fun t => (t, .bool b))
theorem updC_self (b : Bool) : ∀ (l : List Nat) (e : Env), (l.map e = l.map fun _ => .bool b) → updC e l b = e
  | [], _, _ => rfl
  | t :: l, e, hs => by
    simp only [List.map_cons, List.cons.injEq] at hs
    show updC (upd e t (.bool b)) l b = e
    rw [upd_of e t hs.1]
    exact updC_self b l e hs.2
theorem oB (b : Bool) (k : Nat) (slots : List Nat) (vs : Bool → List (Nat × Value)) {l rest : List Oper} (hr : dropO k l = some rest)
    (hT : b = true → owp P ops n Q rest (updL (updC e slots true) (vs true)) h → owp P ops n Q l (updC e slots true) h)
    (hF : b = false → owp P ops n Q rest (updL (updC e slots false) (vs false)) h → owp P ops n Q l (updC e slots false) h)
    (hq : owp P ops n Q rest (updL e (vs b)) h) (hs : (slots.map e = slots.map fun _ => .bool b) := by kernel_rfl) : owp P ops n Q l e h := by
  have e1 := updC_self b slots e hs
  cases b with
  | true => rw [← e1]; exact hT rfl (by rw [e1]; exact hq)
  | false => rw [← e1]; exact hF rfl (by rw [e1]; exact hq)
theorem cR {id : Nat} {l : List Oper} {y : Code} (ho : owp P l.toArray n (thenE (fun e h => cwp P y n Q e h) Q) l e h) : cwp P (.seq (.region id l.toArray false) y) n Q e h := cwp_seq (cwp_region ho)
theorem oE {next : Env → Heap → Prop} {Q' : Exit → Env → Heap → Prop} (hq : next e h) : owp P ops n (thenE next Q') [] e h := owp_nil hq
theorem owp_at (t : Nat) (v : Value) {l : List Oper} (hv : e t = v) (hq : owp P ops n Q l (upd e t v) h) : owp P ops n Q l e h := by rwa [upd_of e t hv] at hq
theorem owp_hpD (hd : o.dst = none) (hg : Region.wanted o (yieldE ops n e) = true)
    (ho : hp P (execOp (evE n e) o) (nextE P fun _ h' => owp P ops n Q rest e h') h) : owp P ops n Q (o :: rest) e h := by
  intro a w w0 r hw R
  unfold wpList
  rw [yield_eq r, if_pos hg]
  subst hw
  exact .inl (upon_of' hd r R ho)
theorem cwp_of_part {fn : Func} {p : List Nat} {c : Code} (hp : fn.body.bind (walk p) = some c) (hc : cwp P (partC fn p) n Q e h) : cwp P c n Q e h := by
  unfold partC at hc
  rw [hp] at hc
  exact hc
theorem lwp_of_part {fn : Func} {p : List Nat} {c : Code} {k : Nat} (hp : fn.body.bind (walk p) = some c) (hc : lwp P (partC fn p) n Q k e h) : lwp P c n Q k e h := by
  unfold partC at hc
  rw [hp] at hc
  exact hc

/-! #### The same in a region whose order is open -/
section
variable {L : Held} {fuel : Nat} {listed : Array Bool} {j : Nat}
theorem kwp_at (t : Nat) (v : Value) (hv : e t = v) (hq : kwp P ops n Q fuel L listed (upd e t v) h) : kwp P ops n Q fuel L listed e h := by rwa [upd_of e t hv] at hq
theorem k_eff (hr : Region.ready .any ops listed = [j]) (hj : ops[j]? = some o) (hd : o.dst = some d) (hg : Region.wanted o (yieldE ops n e) = true)
    (ho : hp P (execOp (evE n e) o) (nextE P fun v h' => allS (keepL j L) h' ∧ kwp P ops n Q fuel (keepL j L) (listed.setIfInBounds j true) (upd e d v) h') h) : kwp P ops n Q (fuel + 1) L listed e h :=
  k_step hr (step_val hj hd hg ho)
theorem k_effD (hr : Region.ready .any ops listed = [j]) (hj : ops[j]? = some o) (hd : o.dst = none) (hg : Region.wanted o (yieldE ops n e) = true)
    (ho : hp P (execOp (evE n e) o) (nextE P fun _ h' => allS (keepL j L) h' ∧ kwp P ops n Q fuel (keepL j L) (listed.setIfInBounds j true) e h') h) : kwp P ops n Q (fuel + 1) L listed e h :=
  k_step hr (step_do hj hd hg ho)
end
end
end Go.Hp
