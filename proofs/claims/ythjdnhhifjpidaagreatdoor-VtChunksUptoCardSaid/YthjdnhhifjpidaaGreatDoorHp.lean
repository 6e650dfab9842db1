/-
  A CALCULUS OVER HEAPS: weakest preconditions of the model's code, stated over memory alone (the draws are hidden), registers as a function. Own work; no toy, no program.
-/
import Derived.Calls
import Derived.Control
import Derived.LoopN
import Derived.Tactics
import Derived.Deep.Quiet
import Derived.Deep.QuietTactic
import Derived.KernelRfl
set_option linter.unusedVariables false
set_option linter.unusedSimpArgs false
namespace Go.Hp

abbrev Heap := Array Obj
def cellH (h : Heap) (a : Addr) : Option Value :=
  match h[a.block]? with
  | some (.cells c _ _) => if a.spot.isSome then none else c[a.off]?
  | _ => none
def shapeH (h : Heap) (r : Nat) : Option (TypeId × Nat) :=
  match h[r]? with
  | some (.cells c elem _) => some (elem, c.size)
  | _ => none
def frozenH (h : Heap) (a : Addr) : Bool :=
  match h[a.block]? with
  | some (.cells _ _ (lo, hi)) => lo ≤ a.off && a.off < hi
  | _ => false
def freezeH (h : Heap) (a : Addr) (n : Nat) : Heap :=
  if n = 0 then h else
  h.modify a.block fun
      | .cells c elem (lo, hi) => .cells c elem (if lo == hi then (a.off, a.off + n) else (min lo a.off, max hi (a.off + n)))
      | o => o
def setH (h : Heap) (a : Addr) (v : Value) : Heap :=
  h.modify a.block fun
      | .cells c elem frozen => .cells (if a.spot.isSome then c else c.setIfInBounds a.off v) elem frozen
      | o => o
def oneV : Value → Bool
  | .agg _ | .tuple _ => false
  | _ => true
def Obj.isCells : Obj → Bool
  | .cells .. => true
  | _ => false

/-- What a run leaves alone, whatever it does to memory. -/
structure Rest (w w' : World) : Prop where
  os : w'.os = w.os
  tape : w'.tape = w.tape
  output : w'.output = w.output
theorem Rest.refl (w : World) : Rest w w := ⟨rfl, rfl, rfl⟩
theorem Rest.trans {a b c : World} (h : Rest a b) (k : Rest b c) : Rest a c := ⟨k.os.trans h.os, k.tape.trans h.tape, k.output.trans h.output⟩

theorem cell_eq (w : World) (a : Addr) : w.cell? a = cellH w.heap a := rfl
theorem frozen_eq (w : World) (a : Addr) : w.frozen? a = frozenH w.heap a := rfl
theorem freeze_heap (w : World) (a : Addr) (n : Nat) : (w.freeze a n).heap = freezeH w.heap a n := by
  unfold World.freeze freezeH
  split <;> rfl
theorem freeze_rest (w : World) (a : Addr) (n : Nat) : Rest w (w.freeze a n) := by
  unfold World.freeze
  split
  · exact Rest.refl w
  · exact ⟨rfl, rfl, rfl⟩
/-- The weakest precondition of an operation's requests, over memory: every choice is allowed, no halt. -/
def hp (p : Program) {α : Type} : Sem α → (α → Heap → Prop) → Heap → Prop
  | .pure a, Q, h => Q a h
  | .load _ a k, Q, h => ∃ v, cellH h a = some v ∧ hp p (k v) Q h
  | .store _ a v k, Q, h => oneV v = true ∧ (∃ u, cellH h a = some u) ∧ frozenH h a = false ∧ hp p k Q (setH h a v)
  | .new o k, Q, h => hp p (k h.size) Q (h.push o)
  | .shape r k, Q, h => hp p (k (shapeH h r)) Q h
  | .freeze a n k, Q, h => hp p k Q (freezeH h a n)
  | .frozen a k, Q, h => hp p (k (frozenH h a)) Q h
  | .getObj r k, Q, h => ∃ o, h[r]? = some o ∧ Obj.isCells o = false ∧ hp p (k o) Q h
  | .setObj r o k, Q, h => (∃ u, h[r]? = some u ∧ Obj.isCells u = false) ∧ hp p k Q (h.setIfInBounds r o)
  | .choose q k, Q, h => (q.forced = true → hp p (k 0) Q h) ∧ (q.forced = false → ∀ t, hp p (k (q.cut t)) Q h)
  | .sys _ _, _, _ => False
  | .program k, Q, h => hp p (k p) Q h
  | .mark _ k, Q, h => hp p k Q h
  | .halt _, _, _ => False

theorem hp_sound {p : Program} {α : Type} (e : Sem α) : ∀ {Q : α → Heap → Prop} {w : World}, hp p e Q w.heap → ∃ a w', e.run p w = .ok a w' ∧ Rest w w' ∧ Q a w'.heap := by
  induction e with
  | pure a => intro Q w h; exact ⟨a, w, rfl, Rest.refl w, h⟩
  | load m a k ih =>
    intro Q w h
    obtain ⟨v, hc, hk⟩ := h
    obtain ⟨x, w', hr, hR, hq⟩ := ih v hk
    refine ⟨x, w', ?_, hR, hq⟩
    rw [← cell_eq] at hc
    simp only [Sem.run, hc, hr]
  | store m a v k ih =>
    intro Q w h
    obtain ⟨h1, ⟨u, hu⟩, hf, hk⟩ := h
    obtain ⟨x, w', hr, hR, hq⟩ := ih (w := w.setCell a v) hk
    refine ⟨x, w', ?_, (show Rest w (w.setCell a v) from ⟨rfl, rfl, rfl⟩).trans hR, hq⟩
    rw [← cell_eq] at hu
    rw [← frozen_eq] at hf
    cases v <;> simp only [oneV, Bool.false_eq_true] at h1 <;> simp only [Sem.run, hu, hf, hr, Bool.false_eq_true, if_false]
  | new o k ih =>
    intro Q w h
    obtain ⟨x, w', hr, hR, hq⟩ := ih w.heap.size (w := { w with heap := w.heap.push o }) h
    exact ⟨x, w', by simp only [Sem.run, hr], ⟨hR.os, hR.tape, hR.output⟩, hq⟩
  | shape r k ih => intro Q w h; exact ih _ h
  | freeze a n k ih =>
    intro Q w h
    have h' : hp p k Q (w.freeze a n).heap := by rw [freeze_heap]; exact h
    obtain ⟨x, w', hr, hR, hq⟩ := ih h'
    exact ⟨x, w', by simp only [Sem.run, hr], (freeze_rest w a n).trans hR, hq⟩
  | frozen a k ih => intro Q w h; exact ih _ h
  | getObj r k ih =>
    intro Q w h
    obtain ⟨o, ho, hc, hk⟩ := h
    obtain ⟨x, w', hr, hR, hq⟩ := ih o hk
    refine ⟨x, w', ?_, hR, hq⟩
    cases o <;> simp only [Obj.isCells, Bool.true_eq_false] at hc <;> simp only [Sem.run, ho, hr]
  | setObj r o k ih =>
    intro Q w h
    obtain ⟨⟨u, hu, hc⟩, hk⟩ := h
    obtain ⟨x, w', hr, hR, hq⟩ := ih (w := { w with heap := w.heap.setIfInBounds r o }) hk
    refine ⟨x, w', ?_, ⟨hR.os, hR.tape, hR.output⟩, hq⟩
    cases u <;> simp only [Obj.isCells, Bool.true_eq_false] at hc <;> simp only [Sem.run, hu, hr]
  | choose q k ih =>
    intro Q w h
    obtain ⟨h0, h1⟩ := h
    cases hf : q.forced with
    | true =>
      obtain ⟨x, w', hr, hR, hq⟩ := ih 0 (h0 hf)
      exact ⟨x, w', by simp only [Sem.run, hf, if_true, hr], hR, hq⟩
    | false =>
      obtain ⟨x, w', hr, hR, hq⟩ := ih _ (w := { w with drawn := w.drawn + 1 }) (h1 hf (w.tape w.drawn q))
      exact ⟨x, w', by simp only [Sem.run, hf, Bool.false_eq_true, if_false, hr], ⟨hR.os, hR.tape, hR.output⟩, hq⟩
  | sys c k ih => intro Q w h; exact h.elim
  | program k ih => intro Q w h; exact ih _ h
  | mark m k ih => intro Q w h; exact ih h
  | halt x => intro Q w h; exact h.elim

/-- The value of an operation that only reads. -/
def rd (p : Program) {α : Type} : Sem α → Heap → Option α
  | .pure a, _ => some a
  | .load _ a k, h => (cellH h a).bind fun v => rd p (k v) h
  | .shape r k, h => rd p (k (shapeH h r)) h
  | .frozen a k, h => rd p (k (frozenH h a)) h
  | .program k, h => rd p (k p) h
  | .mark _ k, h => rd p k h
  | _, _ => none

theorem rd_sound {p : Program} {α : Type} (e : Sem α) : ∀ {a : α} {w : World}, rd p e w.heap = some a → e.run p w = .ok a w := by
  induction e with
  | pure a => intro b w h; simp only [rd, Option.some.injEq] at h; subst h; rfl
  | load m a k ih =>
    intro b w h
    unfold rd at h
    cases hc : cellH w.heap a with
    | none => rw [hc] at h; cases h
    | some v =>
      rw [hc] at h
      rw [← cell_eq] at hc
      simp only [Sem.run, hc]
      exact ih v h
  | shape r k ih => intro b w h; exact ih _ h
  | frozen a k ih => intro b w h; exact ih _ h
  | program k ih => intro b w h; exact ih _ h
  | mark m k ih => intro b w h; exact ih h
  | _ => intro b w h; simp [rd] at h

theorem rd_hp {p : Program} {α : Type} (e : Sem α) : ∀ {a : α} {h : Heap} {Q : α → Heap → Prop}, rd p e h = some a → Q a h → hp p e Q h := by
  induction e with
  | pure a => intro b h Q hr hq; simp only [rd, Option.some.injEq] at hr; subst hr; exact hq
  | load m a k ih =>
    intro b h Q hr hq
    unfold rd at hr
    cases hc : cellH h a with
    | none => rw [hc] at hr; cases hr
    | some v => rw [hc] at hr; exact ⟨v, hc, ih v hr hq⟩
  | shape r k ih => intro b h Q hr hq; exact ih _ hr hq
  | frozen a k ih => intro b h Q hr hq; exact ih _ hr hq
  | program k ih => intro b h Q hr hq; exact ih _ hr hq
  | mark m k ih => intro b h Q hr hq; exact ih hr hq
  | _ => intro b h Q hr hq; simp [rd] at hr
theorem bindE {α β : Type} {x : Option α} {a : α} (hc : x = some a) (f : α → Option β) : x.bind f = f a := by rw [hc]; rfl

/-! ### Registers as a function -/
abbrev Env := Nat → Value
def upd (e : Env) (d : Nat) (v : Value) : Env := fun t => cond (Nat.beq t d) v (e t)
theorem upd_self (e : Env) (d : Nat) : upd e d (e d) = e := by
  funext t
  unfold upd
  cases h : Nat.beq t d with
  | true => rw [Nat.eq_of_beq_eq_true h]; rfl
  | false => rfl
theorem upd_of (e : Env) (d : Nat) {v : Value} (h : e d = v) : upd e d v = e := by rw [← h]; exact upd_self e d
def evE (n : Nat) (e : Env) : Operand → Value
  | .tmp t => cond (Nat.ble (t + 1) n) (e t) undef
  | .const v => v
  | .global g => .pointer (some ⟨g, 0, none⟩)
  | .func f => .func (.func f) #[] #[]
theorem ge_of_ble {t n : Nat} (h : Nat.ble (t + 1) n = false) : n ≤ t := by
  cases Nat.lt_or_ge t n with
  | inl hlt => have := Nat.ble_eq_true_of_le (show t + 1 ≤ n from hlt); rw [h] at this; cases this
  | inr hge => exact hge
structure RepA (n : Nat) (a : Act) (e : Env) : Prop where
  size : a.tmps.size = n
  defers : a.defers = []
  get : ∀ t, t < n → a.tmps.getD t undef = e t
theorem RepA.eval {n : Nat} {a : Act} {e : Env} (r : RepA n a e) : a.eval = evE n e := by
  funext x
  cases x with
  | tmp t =>
    simp only [Act.eval, evE]
    cases h : Nat.ble (t + 1) n with
    | true => exact r.get t (Nat.le_of_ble_eq_true h)
    | false =>
      simp only [cond_false]
      rw [Array.getD_eq_getD_getElem?, Array.getElem?_eq_none (by rw [r.size]; exact ge_of_ble h)]
      rfl
  | const v => rfl
  | global g => rfl
  | func f => rfl
theorem RepA.put {n : Nat} {a : Act} {e : Env} (r : RepA n a e) (d : Nat) (v : Value) : RepA n (a.put (some d) v) (upd e d v) := by
  refine ⟨by simp [Act.put, r.size], r.defers, fun t ht => ?_⟩
  have hg := r.get t ht
  simp only [Act.put, upd]
  cases h : Nat.beq t d with
  | true =>
    have := Nat.eq_of_beq_eq_true h
    subst this
    simp only [cond_true]
    rw [Array.getD_eq_getD_getElem?, Array.getElem?_setIfInBounds_self_of_lt (by rw [r.size]; exact ht)]
    rfl
  | false =>
    have hne : d ≠ t := fun e => by subst e; rw [Nat.beq_refl] at h; cases h
    simp only [cond_false]
    rw [Array.getD_eq_getD_getElem?, Array.getElem?_setIfInBounds_ne hne, ← Array.getD_eq_getD_getElem?]
    exact hg
theorem RepA.ext {n : Nat} {a : Act} {e e' : Env} (r : RepA n a e) (h : ∀ t, t < n → e t = e' t) : RepA n a e' := ⟨r.size, r.defers, fun t ht => (r.get t ht).trans (h t ht)⟩

def liftQ (n : Nat) (w0 : World) (Q : Exit → Env → Heap → Prop) : Exit → Act → World → Prop := fun x a w => ∃ e, RepA n a e ∧ Rest w0 w ∧ Q x e w.heap
theorem liftQ_mono {n : Nat} {w0 w1 : World} {Q : Exit → Env → Heap → Prop} (hr : Rest w0 w1) {x : Exit} {a : Act} {w : World} (h : liftQ n w1 Q x a w) : liftQ n w0 Q x a w :=
  let ⟨e, r, R, q⟩ := h
  ⟨e, r, hr.trans R, q⟩

def cwp (P : Program) (c : Code) (n : Nat) (Q : Exit → Env → Heap → Prop) (e : Env) (h : Heap) : Prop :=
  ∀ a w, RepA n a e → w.heap = h → c.wp P (liftQ n w Q) a w
def owp (P : Program) (ops : Array Oper) (n : Nat) (Q : Exit → Env → Heap → Prop) (l : List Oper) (e : Env) (h : Heap) : Prop :=
  ∀ a w w0, RepA n a e → w.heap = h → Rest w0 w → wpList P ops (liftQ n w0 Q) l a w

def thenE (next : Env → Heap → Prop) (Q : Exit → Env → Heap → Prop) : Exit → Env → Heap → Prop
  | .normal, e, h => next e h
  | x, e, h => Q x e h
def blockE (id : Nat) (Q : Exit → Env → Heap → Prop) : Exit → Env → Heap → Prop
  | .exit id', e, h => if id' = id then Q .normal e h else Q (.exit id') e h
  | x, e, h => Q x e h

section
variable {P : Program} {n : Nat} {Q : Exit → Env → Heap → Prop} {e : Env} {h : Heap}

theorem cwp_seq {x y : Code} (hx : cwp P x n (thenE (fun e h => cwp P y n Q e h) Q) e h) : cwp P (.seq x y) n Q e h := by
  intro a w r hw
  refine wp_seq (wp_mono (hx a w r hw) ?_)
  rintro ex a' w' ⟨e', r', R, q⟩
  cases ex with
  | normal => exact wp_mono (q a' w' r' rfl) fun _ _ _ hh => liftQ_mono R hh
  | exit id => exact ⟨e', r', R, q⟩
  | goto l => exact ⟨e', r', R, q⟩
  | ret => exact ⟨e', r', R, q⟩
  | panic ch => exact ⟨e', r', R, q⟩
  | outgrown => exact ⟨e', r', R, q⟩
theorem cwp_skip (hq : Q .normal e h) : cwp P .skip n Q e h := fun a w r hw => wp_skip ⟨e, r, Rest.refl w, hw ▸ hq⟩
theorem cwp_exit {id : Nat} (hq : Q (.exit id) e h) : cwp P (.exit id) n Q e h := fun a w r hw => wp_exit ⟨e, r, Rest.refl w, hw ▸ hq⟩
theorem cwp_ret (hq : Q .ret e h) : cwp P .ret n Q e h := fun a w r hw => wp_ret ⟨e, r, Rest.refl w, hw ▸ hq⟩
theorem cwp_cond {c : Operand} {x y : Code} {t : Bool} (hc : evE n e c = .bool t) (ht : t = true → cwp P x n Q e h) (hf : t = false → cwp P y n Q e h) : cwp P (.cond c x y) n Q e h := by
  intro a w r hw
  refine wp_cond_split (t := t) (by rw [r.eval]; exact hc) (fun h' => ht h' a w r hw) (fun h' => hf h' a w r hw)
theorem cwp_block {id : Nat} {c : Code} (hc : cwp P c n (blockE id Q) e h) : cwp P (.block id c) n Q e h := by
  intro a w r hw
  refine wp_block (wp_mono (hc a w r hw) ?_)
  rintro ex a' w' ⟨e', r', R, q⟩
  cases ex with
  | exit id' =>
    simp only [Exit.inBlock]
    simp only [blockE] at q
    split
    · rename_i hid; rw [if_pos hid] at q; exact ⟨e', r', R, q⟩
    · rename_i hid; rw [if_neg hid] at q; exact ⟨e', r', R, q⟩
  | normal => exact ⟨e', r', R, q⟩
  | goto l => exact ⟨e', r', R, q⟩
  | ret => exact ⟨e', r', R, q⟩
  | panic ch => exact ⟨e', r', R, q⟩
  | outgrown => exact ⟨e', r', R, q⟩

/-- So many rounds of a loop. -/
def lwp (P : Program) (c : Code) (n : Nat) (Q : Exit → Env → Heap → Prop) : Nat → Env → Heap → Prop
  | 0, _, _ => False
  | k + 1, e, h => cwp P c n (thenE (lwp P c n Q k) Q) e h
theorem cwp_loop {c : Code} (k : Nat) (hl : lwp P c n Q k e h) : cwp P (.loop c) n Q e h := by
  intro a w r hw
  refine wp_loop_rounds k ?_
  have key : ∀ k e h a w w0, lwp P c n Q k e h → RepA n a e → w.heap = h → Rest w0 w → Code.rounds P c (liftQ n w0 Q) k a w := by
    intro k
    induction k with
    | zero => intro e h a w w0 hl; exact hl.elim
    | succ k ih =>
      intro e h a w w0 hl r hw R
      rw [rounds_succ]
      refine wp_mono (hl a w r hw) ?_
      rintro ex a' w' ⟨e', r', R', q⟩
      cases ex with
      | normal => exact ih e' w'.heap a' w' w0 q r' rfl (R.trans R')
      | exit id => exact ⟨e', r', R.trans R', q⟩
      | goto l => exact ⟨e', r', R.trans R', q⟩
      | ret => exact ⟨e', r', R.trans R', q⟩
      | panic ch => exact ⟨e', r', R.trans R', q⟩
      | outgrown => exact ⟨e', r', R.trans R', q⟩
  exact key k e h a w w hl r hw (Rest.refl w)

theorem cwp_region {id : Nat} {l : List Oper} (ho : owp P l.toArray n Q l e h) : cwp P (.region id l.toArray false) n Q e h :=
  fun a w r hw => wp_region_lit (ho a w w r hw (Rest.refl w))

/-! ### Calls -/
def CallsH (P : Program) (f : FuncId) (args : Array Value) (R : Value → Heap → Prop) (h : Heap) : Prop :=
  ∀ w, w.heap = h → Calls P f args w fun e w' => ∃ v, e = .returned v ∧ Rest w w' ∧ R v w'.heap
theorem CallsH.mono {f : FuncId} {args : Array Value} {R R' : Value → Heap → Prop} (hc : CallsH P f args R h) (hr : ∀ v h, R v h → R' v h) : CallsH P f args R' h :=
  fun w hw => (hc w hw).mono fun _ _ ⟨v, he, R, q⟩ => ⟨v, he, R, hr _ _ q⟩

/-- The first registers of a call. -/
def env0 (args : Array Value) : Env := fun t => args.getD t undef
/-- The results, read off registers that are a function. -/
def resultsE (fn : Func) (e : Env) : Sem Value := do
  let vs ← fn.results.mapM fun
    | .tmp t => pure (e t)
    | .cell a t => do loadVar t (← asAddr (e a))
  pure (if h : vs.size = 1 then vs[0] else .tuple vs)
def cutE (n : Nat) (e : Env) : Env := fun t => cond (Nat.ble (t + 1) n) (e t) undef
theorem results_cut {fn : Func} {tmps : Array Value} (hs : tmps.size = n) (hg : ∀ t, t < n → tmps.getD t undef = e t) : results fn tmps = resultsE fn (cutE n e) := by
  have : cutE n e = fun t => tmps.getD t undef := by
    funext t
    unfold cutE
    cases hb : Nat.ble (t + 1) n with
    | true => exact (hg t (Nat.le_of_ble_eq_true hb)).symm
    | false =>
      simp only [cond_false]
      rw [Array.getD_eq_getD_getElem?, Array.getElem?_eq_none (by rw [hs]; exact ge_of_ble hb)]
      rfl
  rw [this]
  rfl
/-- A body's end: the results are read. -/
def bodyE (P : Program) (fn : Func) (n : Nat) (R : Value → Heap → Prop) : Exit → Env → Heap → Prop
  | .normal, e, h | .ret, e, h => ∃ v, rd P (resultsE fn (cutE n e)) h = some v ∧ R v h
  | _, _, _ => False
theorem ret_ {fn : Func} {R : Value → Heap → Prop} (v : Value) (hr : rd P (resultsE fn (cutE n e)) h = some v) (q : R v h) : bodyE P fn n R .ret e h := ⟨v, hr, q⟩
theorem end_ {fn : Func} {R : Value → Heap → Prop} (v : Value) (hr : rd P (resultsE fn (cutE n e)) h = some v) (q : R v h) : bodyE P fn n R .normal e h := ⟨v, hr, q⟩

theorem callsH_intro {f : FuncId} {fn : Func} {c : Code} {args : Array Value} {R : Value → Heap → Prop} (hf : P.funcs[f]? = some fn) (hb : fn.body = some c) (hn : fn.ntmps = n) (hle : Nat.ble args.size n = true)
    (hc : cwp P c n (bodyE P fn n R) (env0 args) h) : CallsH P f args R h := by
  intro w hw
  have hle' : args.size ≤ n := Nat.le_of_ble_eq_true hle
  refine calls_of_wp hf hb (wp_mono (hc _ w ⟨?_, rfl, fun t ht => ?_⟩ hw) ?_)
  · simp [hn]; omega
  · simp only [env0]
    rw [Array.getD_eq_getD_getElem?, Array.getD_eq_getD_getElem?, Array.getElem?_append]
    split
    · rfl
    · rename_i hlt
      rw [Array.getElem?_replicate, Array.getElem?_eq_none (by omega)]
      split <;> rfl
  · rintro ex a' w' ⟨e', r', R', q⟩
    cases ex with
    | normal =>
      obtain ⟨v, hv, hR⟩ := q
      exact ⟨r'.defers, v, rd_sound _ (by rw [results_cut r'.size r'.get]; exact hv), v, rfl, R', hR⟩
    | ret =>
      obtain ⟨v, hv, hR⟩ := q
      exact ⟨r'.defers, v, rd_sound _ (by rw [results_cut r'.size r'.get]; exact hv), v, rfl, R', hR⟩
    | exit id => exact q.elim
    | goto l => exact q.elim
    | panic ch => exact q.elim
    | outgrown => exact q.elim

/-! ### A region's operations, one behind the other -/
theorem owp_nil {ops : Array Oper} (hq : Q .normal e h) : owp P ops n Q [] e h := fun a w w0 r hw R => wpList_nil ⟨e, r, R, hw ▸ hq⟩

def nextE (P : Program) (K : Value → Heap → Prop) : Next → Heap → Prop
  | .value v, h => K v h
  | .skip, h => K undef h
  | .enter f args, h => CallsH P f args K h
  | _, _ => False

theorem upon_of {ops : Array Oper} {o : Oper} {rest : List Oper} {d : Nat} (hd : o.dst = some d) {a : Act} {w w0 : World} (r : RepA n a e) (R : Rest w0 w)
    (ho : hp P (execOp (evE n e) o) (nextE P fun v h' => owp P ops n Q rest (upd e d v) h') w.heap) : o.wp P a w (wpList P ops (liftQ n w0 Q) rest) (liftQ n w0 Q) := by
  obtain ⟨nx, w', hr, R', q⟩ := hp_sound _ ho
  unfold Oper.wp
  rw [r.eval, hr]
  cases nx with
  | value v => simp only [Oper.upon, hd]; exact q _ w' w0 (r.put d v) rfl (R.trans R')
  | skip => simp only [Oper.upon, hd]; exact q _ w' w0 (r.put d undef) rfl (R.trans R')
  | enter f args =>
    simp only [Oper.upon, hd]
    refine (q w' rfl).mono ?_
    rintro en w'' ⟨v, rfl, R'', q'⟩
    exact q' _ w'' w0 (r.put d v) rfl ((R.trans R').trans R'')
  | _ => exact q.elim
theorem upon_of' {ops : Array Oper} {o : Oper} {rest : List Oper} (hd : o.dst = none) {a : Act} {w w0 : World} (r : RepA n a e) (R : Rest w0 w)
    (ho : hp P (execOp (evE n e) o) (nextE P fun _ h' => owp P ops n Q rest e h') w.heap) : o.wp P a w (wpList P ops (liftQ n w0 Q) rest) (liftQ n w0 Q) := by
  obtain ⟨nx, w', hr, R', q⟩ := hp_sound _ ho
  unfold Oper.wp
  rw [r.eval, hr]
  cases nx with
  | value v => simp only [Oper.upon, hd]; exact q _ w' w0 r rfl (R.trans R')
  | skip => simp only [Oper.upon, hd]; exact q _ w' w0 r rfl (R.trans R')
  | enter f args =>
    simp only [Oper.upon, hd]
    refine (q w' rfl).mono ?_
    rintro en w'' ⟨v, rfl, R'', q'⟩
    exact q' _ w'' w0 r rfl ((R.trans R').trans R'')
  | _ => exact q.elim

/-- What a guard asks. -/
def yieldE (ops : Array Oper) (n : Nat) (e : Env) (j : Nat) : Option Bool :=
  match (ops[j]?).bind (·.dst) with
  | some d => cond (Nat.ble (d + 1) n) (match e d with
    | .bool b => some b
    | _ => none) none
  | none => none
theorem yield_eq {ops : Array Oper} {a : Act} (r : RepA n a e) : yielded ops a.tmps = yieldE ops n e := by
  funext j
  unfold yielded yieldE
  cases hd : (ops[j]?).bind (·.dst) with
  | none => rfl
  | some d =>
    simp only [Option.bind_some]
    cases hb : Nat.ble (d + 1) n with
    | true =>
      have hlt : d < n := Nat.le_of_ble_eq_true hb
      have hg := r.get d hlt
      rw [Array.getD_eq_getD_getElem?, Array.getElem?_eq_getElem (by rw [r.size]; exact hlt)] at hg
      rw [Array.getElem?_eq_getElem (by rw [r.size]; exact hlt)]
      simp only [Option.getD_some] at hg
      rw [hg]
      cases e d <;> rfl
    | false =>
      rw [Array.getElem?_eq_none (by rw [r.size]; exact ge_of_ble hb)]
      rfl
/-- A guarded operation that is wanted. -/
theorem owp_hpG {ops : Array Oper} {o : Oper} {rest : List Oper} {d : Nat} (hd : o.dst = some d) (hg : Region.wanted o (yieldE ops n e) = true)
    (ho : hp P (execOp (evE n e) o) (nextE P fun v h' => owp P ops n Q rest (upd e d v) h') h) : owp P ops n Q (o :: rest) e h := by
  intro a w w0 r hw R
  unfold wpList
  rw [yield_eq r, if_pos hg]
  subst hw
  exact .inl (upon_of hd r R ho)
/-- A guarded operation that is not. -/
theorem owp_not {ops : Array Oper} {o : Oper} {rest : List Oper} {d : Nat} (hd : o.dst = some d) (hg : Region.wanted o (yieldE ops n e) = false) (k : owp P ops n Q rest (upd e d undef) h) : owp P ops n Q (o :: rest) e h := by
  intro a w w0 r hw R
  unfold wpList
  rw [yield_eq r, hg]
  simp only [Bool.false_eq_true, if_false, hd]
  exact k _ w w0 (r.put d undef) hw R

/-! ### A region whose order is open, and that only reads -/
end
end Go.Hp
