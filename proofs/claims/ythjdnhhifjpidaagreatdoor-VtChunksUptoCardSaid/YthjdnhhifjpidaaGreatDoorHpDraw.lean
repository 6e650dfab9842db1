/-
  REGIONS WHOSE ORDER IS OPEN, OVER HEAPS: loads are taken as soon as they may be; what may come up beside a load keeps what it reads. Own work; no program.
-/
import Derived.OrdersHeld
import Derived.Test.YthjdnhhifjpidaaGreatDoorHp
set_option linter.unusedVariables false
set_option linter.unusedSimpArgs false
namespace Go.Hp

section
variable {P : Program} {md : Region.Mode} {ops : Array Oper} {Q : Exit → Act → World → Prop}

/-- Whatever order is picked from here on; a pair of L: what holds behind every operation that it keeps to; behind another one the pair is dropped. -/
def anyK (P : Program) (md : Region.Mode) (ops : Array Oper) (Q : Exit → Act → World → Prop) : Nat → List ((Nat → Bool) × (World → Prop)) → Array Bool → Act → World → Prop
  | 0, L, listed, a, w => (∀ p ∈ L, p.2 w) ∧ Region.ready md ops listed = [] ∧ Q .normal a w
  | fuel + 1, L, listed, a, w => (∀ p ∈ L, p.2 w) ∧ (Region.ready md ops listed = [] → Q .normal a w) ∧
    ∀ j ∈ Region.ready md ops listed, wpOp P ops Q j (anyK P md ops Q fuel (L.filter (·.1 j)) (listed.setIfInBounds j true)) a w

theorem anyK_any : ∀ (fuel : Nat) (L : List ((Nat → Bool) × (World → Prop))) (listed : Array Bool) (a : Act) (w : World), anyK P md ops Q fuel L listed a w → wpAny P md ops Q fuel listed a w
  | 0, _, _, _, _, h => h.2
  | fuel + 1, _, _, _, _, h => ⟨h.2.1, fun i hi => wpOp_mono (fun a' w' h' => anyK_any fuel _ _ a' w' h') (h.2.2 i hi)⟩

theorem anyK_head {fuel : Nat} {L : List ((Nat → Bool) × (World → Prop))} {listed : Array Bool} {a : Act} {w : World} (h : anyK P md ops Q fuel L listed a w) : ∀ p ∈ L, p.2 w := by
  cases fuel with
  | zero => exact h.1
  | succ fuel => exact h.1

theorem anyK_more : ∀ (fuel : Nat) (L : List ((Nat → Bool) × (World → Prop))) (listed : Array Bool) (a : Act) (w : World), anyK P md ops Q fuel L listed a w → anyK P md ops Q fuel ((fun _ => true, fun _ => True) :: L) listed a w
  | 0, L, _, _, _, h => ⟨fun p hp => by rcases List.mem_cons.1 hp with rfl | hp; exact trivial; exact h.1 p hp, h.2⟩
  | fuel + 1, L, _, _, _, h => ⟨fun p hp => by rcases List.mem_cons.1 hp with rfl | hp; exact trivial; exact h.1 p hp, h.2.1, fun j hj => wpOp_mono (fun a' w' h' => by
      rw [List.filter_cons_of_pos rfl]
      exact anyK_more fuel _ _ a' w' h') (h.2.2 j hj)⟩

theorem anyK_drop : ∀ {fuel : Nat} {p : (Nat → Bool) × (World → Prop)} {L : List ((Nat → Bool) × (World → Prop))} {listed : Array Bool} {a : Act} {w : World}, anyK P md ops Q fuel (p :: L) listed a w → anyK P md ops Q fuel L listed a w
  | 0, _, _, _, _, _, h => ⟨fun q hq => h.1 q (List.mem_cons_of_mem _ hq), h.2⟩
  | fuel + 1, p, L, listed, a, w, h => ⟨fun q hq => h.1 q (List.mem_cons_of_mem _ hq), h.2.1, fun j hj => wpOp_mono (fun a' w' h' => by
      cases hp : p.1 j with
      | true => simp only [List.filter_cons, hp, if_true] at h'; exact anyK_drop h'
      | false => simp only [List.filter_cons, hp, Bool.false_eq_true, if_false] at h'; exact h') (h.2.2 j hj)⟩

/-- A member of A waits, at last, for i. -/
structure After (md : Region.Mode) (ops : Array Oper) (i : Nat) (A : Nat → Bool) : Prop where
  waits : ∀ j, A j = true → ∃ oj, ops[j]? = some oj ∧ ∃ e ∈ oj.after, Region.binds md e = true ∧ (e.on = i ∨ A e.on = true)

theorem anyK_first {i : Nat} {oi : Oper} {v : Value} {S : World → Prop} {keep A : Nat → Bool} (hi : ops[i]? = some oi) (hsel : ∀ (j : Nat) (o : Oper) cs b, ops[j]? = some o → o.op ≠ .select cs b)
    (hQ : ∀ c a w, Q (.panic c) (a.put oi.dst v) w → Q (.panic c) a w) (hA : After md ops i A) (hk : ∀ j, keep j = false → A j = true) :
    ∀ (fuel : Nat) (L : List ((Nat → Bool) × (World → Prop))) (listed : Array Bool) (a : Act) (w : World),
      (∀ j, A j = true → listed.getD j false = false) →
      (∀ j oj, ops[j]? = some oj → j ≠ i → listed.getD j true = false → A j = false → oi.apart ops oj = true) →
      (∀ p ∈ L, p.1 i = true) → i ∈ Region.ready md ops listed → YieldsIf P ops S oi v a → S w →
      anyK P md ops Q fuel ((keep, S) :: L) (listed.setIfInBounds i true) (a.put oi.dst v) w → anyK P md ops Q (fuel + 1) L listed a w := by
  have unready : ∀ {listed : Array Bool} {j : Nat}, (∀ j, A j = true → listed.getD j false = false) → i ∈ Region.ready md ops listed → j ∈ Region.ready md ops listed → A j = false := by
    intro listed j hu hir hjr
    cases hAj : A j with
    | false => rfl
    | true =>
      obtain ⟨oj, hoj, e, he, hb, hon⟩ := hA.waits j hAj
      obtain ⟨_, oj', hoj', hall⟩ := mem_ready.1 hjr
      rw [hoj] at hoj'
      cases hoj'
      have h1 := hall e he hb
      rcases hon with hon | hon
      · have h0 := (mem_ready.1 hir).1
        rw [hon] at h1
        rcases Nat.lt_or_ge i listed.size with h' | h'
        · simp [h'] at h0 h1; rw [h0] at h1; cases h1
        · simp [Array.getElem?_eq_none h'] at h1
      · rw [hu _ hon] at h1; cases h1
  have keeps : ∀ (L : List ((Nat → Bool) × (World → Prop))), (∀ p ∈ L, p.1 i = true) → L.filter (·.1 i) = L := fun L h => List.filter_eq_self.2 h
  intro fuel
  induction fuel with
  | zero =>
    intro L listed a w hu hap hL hr hy hS H
    refine ⟨fun p hp => H.1 p (List.mem_cons_of_mem _ hp), fun h => (by rw [h] at hr; cases hr), fun j hj => ?_⟩
    by_cases hji : j = i
    · subst hji
      refine hy.wpOp hi hS ?_
      rw [keeps L hL]
      exact ⟨fun p hp => H.1 p (List.mem_cons_of_mem _ hp), H.2⟩
    · have := ready_mono hj hji
      rw [H.2.1] at this
      cases this
  | succ fuel ih =>
    intro L listed a w hu hap hL hr hy hS H
    refine ⟨fun p hp => H.1 p (List.mem_cons_of_mem _ hp), fun h => (by rw [h] at hr; cases hr), fun j hj => ?_⟩
    by_cases hji : j = i
    · subst hji
      refine hy.wpOp hi hS ?_
      rw [keeps L hL]
      exact anyK_drop H
    · have hAj := unready hu hr hj
      have hkj : keep j = true := by
        cases hkk : keep j with
        | true => rfl
        | false => rw [hk j hkk] at hAj; cases hAj
      have h1 := H.2.2 j (ready_mono hj hji)
      obtain ⟨hjun, oj, hoj, hall⟩ := mem_ready.1 hj
      have h2 := wpOp_putIf hoj (hap j oj hoj hji hjun hAj) (fun cs b => hsel i oi cs b hi) (fun cs b => hsel j oj cs b hoj) hQ hy h1
      refine wpOp_mono (fun a' w' h3 => ?_) h2
      obtain ⟨hy', h4⟩ := h3
      simp only [List.filter_cons, hkj, if_true] at h4
      refine ih (L.filter (·.1 j)) (listed.setIfInBounds j true) a' w' ?_ ?_ (fun p hp => hL p (List.mem_filter.1 hp).1) (ready_mono hr (Ne.symm hji)) hy' (anyK_head h4 _ (List.mem_cons_self ..)) ?_
      · intro k hk'
        have hne : j ≠ k := fun e => by subst e; rw [hAj] at hk'; cases hk'
        rw [getD_set_ne _ hne]
        exact hu k hk'
      · intro k ok hok hki hun hAk
        by_cases hjk : j = k
        · subst hjk
          exact hap j ok hok hki hjun hAk
        · rw [getD_set_ne _ hjk] at hun
          exact hap k ok hok hki hun hAk
      · rw [Array.setIfInBounds_comm _ _ hji]
        exact h4
end

/-! ### The same over heaps -/
abbrev Held := List ((Nat → Bool) × (Heap → Prop))
def wld (L : Held) : List ((Nat → Bool) × (World → Prop)) := L.map fun p => (p.1, fun w => p.2 w.heap)
def allS : Held → Heap → Prop
  | [], _ => True
  | p :: L, h => p.2 h ∧ allS L h
def keepL (j : Nat) : Held → Held
  | [] => []
  | p :: L => cond (p.1 j) (p :: keepL j L) (keepL j L)
def allK (i : Nat) : Held → Bool
  | [] => true
  | p :: L => p.1 i && allK i L
theorem allS_wld {L : Held} {w : World} (h : allS L w.heap) : ∀ p ∈ wld L, p.2 w := by
  induction L with
  | nil => intro p hp; cases hp
  | cons q L ih =>
    intro p hp
    rcases List.mem_cons.1 hp with rfl | hp
    · exact h.1
    · exact ih h.2 p hp
theorem keepL_wld (j : Nat) (L : Held) : (wld L).filter (·.1 j) = wld (keepL j L) := by
  induction L with
  | nil => rfl
  | cons q L ih =>
    simp only [wld, List.map_cons, keepL]
    cases hq : q.1 j with
    | true => simp only [List.filter_cons, hq, if_true, cond_true, List.map_cons]; exact congrArg _ ih
    | false => simp only [List.filter_cons, hq, Bool.false_eq_true, if_false, cond_false]; exact ih
theorem allK_wld {i : Nat} {L : Held} (h : allK i L = true) : ∀ p ∈ wld L, p.1 i = true := by
  induction L with
  | nil => intro p hp; cases hp
  | cons q L ih =>
    simp only [allK, Bool.and_eq_true] at h
    intro p hp
    rcases List.mem_cons.1 hp with rfl | hp
    · exact h.1
    · exact ih h.2 p hp

/-- No panic. -/
def NP (Q : Exit → Env → Heap → Prop) : Exit → Env → Heap → Prop
  | .panic _, _, _ => False
  | x, e, h => Q x e h
theorem NP_imp {Q : Exit → Env → Heap → Prop} {x : Exit} {e : Env} {h : Heap} (hq : NP Q x e h) : Q x e h := by
  cases x <;> first | exact hq | exact hq.elim
theorem NP_panic {n : Nat} {w0 : World} {Q : Exit → Env → Heap → Prop} {c : List PanicEntry} {a : Act} {w : World} (h : liftQ n w0 (NP Q) (.panic c) a w) : False := by
  obtain ⟨_, _, _, q⟩ := h
  exact q

section
variable {P : Program} {ops : Array Oper} {n : Nat} {Q : Exit → Env → Heap → Prop} {e : Env} {h : Heap} {L : Held} {fuel : Nat} {listed : Array Bool}

def kwp (P : Program) (ops : Array Oper) (n : Nat) (Q : Exit → Env → Heap → Prop) (fuel : Nat) (L : Held) (listed : Array Bool) (e : Env) (h : Heap) : Prop :=
  allS L h → ∀ a w w0, RepA n a e → w.heap = h → Rest w0 w → anyK P .any ops (liftQ n w0 (NP Q)) fuel (wld L) listed a w

theorem cwp_draw {id : Nat} {l : List Oper} (hm : P.follows .mixedOrders = true) (hk : kwp P l.toArray n Q l.length [] (Array.replicate l.length false) e h) : cwp P (.region id l.toArray true) n Q e h := by
  intro a w r hw
  refine wp_mono (Q := liftQ n w (NP Q)) (wp_region_any hm (anyK_any _ (wld []) _ _ _ ?_)) fun _ _ _ ⟨e', r', R, q⟩ => ⟨e', r', R, NP_imp q⟩
  have := hk trivial a { w with drawn := w.drawn + 1 } w r hw ⟨rfl, rfl, rfl⟩
  simpa using this

theorem k_done (hr : Region.ready .any ops listed = []) (hq : Q .normal e h) : kwp P ops n Q fuel L listed e h := by
  intro hS a w w0 r hw R
  have hl : ∀ p ∈ wld L, p.2 w := allS_wld (hw ▸ hS)
  cases fuel with
  | zero => exact ⟨hl, hr, e, r, R, hw ▸ hq⟩
  | succ fuel => exact ⟨hl, fun _ => ⟨e, r, R, hw ▸ hq⟩, by rw [hr]; intro j hj; cases hj⟩

/-- What is asked of an operation that is taken first: it may come up; who waits for it, at last, is in A; who doesn't is apart from it. -/
def takeB (ops : Array Oper) (listed : Array Bool) (i : Nat) (A : List Nat) : Bool :=
  (Region.ready .any ops listed).contains i && Region.noSelect ops &&
  (A.all fun j => !listed.getD j true && match ops[j]? with
    | some oj => oj.after.any fun ed => Region.binds .any ed && (ed.on == i || A.contains ed.on)
    | none => false) &&
  ((List.range ops.size).all fun j => j == i || listed.getD j true || A.contains j || match ops[i]?, ops[j]? with
    | some oi, some oj => oi.apart ops oj
    | _, _ => false)

theorem k_first {i : Nat} {oi : Oper} {v : Value} {S : Heap → Prop} {d : Nat} (A kill : List Nat) (hb : takeB ops listed i A = true) (hkA : kill.all (A.contains ·) = true) (hi : ops[i]? = some oi) (hd : oi.dst = some d)
    (hy : ∀ a w0 w1, RepA n a e → Rest w0 w1 → YieldsIf P ops (fun w => S w.heap) oi v a) (hS : S h) (hL : allK i L = true)
    (hk : kwp P ops n Q fuel ((fun j => !kill.contains j, S) :: L) (listed.setIfInBounds i true) (upd e d v) h) : kwp P ops n Q (fuel + 1) L listed e h := by
  intro hl a w w0 r hw R
  simp only [takeB, Bool.and_eq_true] at hb
  obtain ⟨⟨⟨hr, hs⟩, hA⟩, hap⟩ := hb
  have hA' := List.all_eq_true.1 hA
  have hap' := List.all_eq_true.1 hap
  have hirr : i ∈ Region.ready .any ops listed := by simpa using hr
  refine anyK_first (S := fun w => S w.heap) (keep := fun j => !kill.contains j) (A := fun j => A.contains j) hi (Region.noSelect_spec hs) (fun c a w hp => (NP_panic hp).elim) ⟨fun j hj => ?_⟩ (fun j hj => ?_) fuel (wld L) listed a w
    (fun j hj => ?_) (fun j oj hj hne hun hAj => ?_) (allK_wld hL) hirr (hy a w0 w r R) (by rw [hw]; exact hS) ?_
  · have := hA' j (by simpa using hj)
    simp only [Bool.and_eq_true] at this
    cases ho : ops[j]? with
    | none => rw [ho] at this; exact absurd this.2 (by simp)
    | some oj =>
      rw [ho] at this
      refine ⟨oj, rfl, ?_⟩
      obtain ⟨ed, hed, hh⟩ := Array.any_eq_true'.1 this.2
      simp only [Bool.and_eq_true, Bool.or_eq_true, beq_iff_eq] at hh
      exact ⟨ed, hed, hh.1, hh.2⟩
  · have := List.all_eq_true.1 hkA j (by simpa using hj)
    exact this
  · have := hA' j (by simpa using hj)
    simp only [Bool.and_eq_true, Bool.not_eq_true'] at this
    have h1 := this.1
    rcases Nat.lt_or_ge j listed.size with h' | h'
    · simp [h'] at h1 ⊢; exact h1
    · simp [Array.getElem?_eq_none h'] at h1
  · have hlt : j < ops.size := (Array.getElem?_eq_some_iff.1 hj).1
    have := hap' j (List.mem_range.2 hlt)
    rw [hi, hj] at this
    simp only [Bool.or_eq_true, beq_iff_eq] at this
    rcases this with ((h1 | h1) | h1) | h1
    · exact absurd h1 hne
    · rw [hun] at h1; cases h1
    · rw [hAj] at h1; cases h1
    · exact h1
  · have := hk ⟨hS, hl⟩ (a.put oi.dst v) w w0 (by rw [hd]; exact r.put d v) hw R
    exact this

theorem kwp_less {S : Heap → Prop} {keep : Nat → Bool} (hS : S h) (hk : kwp P ops n Q fuel L listed e h) (hT : keep = fun _ => true) (hU : S = fun _ => True) : kwp P ops n Q fuel ((keep, S) :: L) listed e h := by
  subst hT
  subst hU
  intro hl a w w0 r hw R
  exact anyK_more fuel _ _ _ _ (hk hl.2 a w w0 r hw R)

/-- An operation that asks nothing of memory. -/
theorem k_pure {i : Nat} {oi : Oper} {d : Nat} (A : List Nat) (v : Value) (hb : takeB ops listed i A = true) (hi : ops[i]? = some oi) (hd : oi.dst = some d) (hw : Region.wanted oi (yieldE ops n e) = true)
    (hop : ∀ h', rd P (execOp (evE n e) oi) h' = some (.value v)) (hL : allK i L = true)
    (hk : kwp P ops n Q fuel L (listed.setIfInBounds i true) (upd e d v) h) : kwp P ops n Q (fuel + 1) L listed e h :=
  k_first (S := fun _ => True) A [] hb rfl hi hd (fun a _ _ r _ => .inl ⟨by rw [yield_eq r]; exact hw, fun w' _ => by rw [r.eval]; exact rd_sound _ (hop w'.heap)⟩) trivial hL
    (kwp_less trivial hk (by funext j; simp) rfl)
/-- One that isn't wanted. -/
theorem k_not {i : Nat} {oi : Oper} {d : Nat} (A : List Nat) (hb : takeB ops listed i A = true) (hi : ops[i]? = some oi) (hd : oi.dst = some d) (hw : Region.wanted oi (yieldE ops n e) = false) (hL : allK i L = true)
    (hk : kwp P ops n Q fuel L (listed.setIfInBounds i true) (upd e d undef) h) : kwp P ops n Q (fuel + 1) L listed e h :=
  k_first (S := fun _ => True) A [] hb rfl hi hd (fun a _ _ r _ => .inr ⟨by rw [yield_eq r]; exact hw, rfl⟩) trivial hL
    (kwp_less trivial hk (by funext j; simp) rfl)
/-- One that reads: S is what it leans on; those of 'kill' may turn that. -/
theorem k_load {i : Nat} {oi : Oper} {d : Nat} (v : Value) (S : Heap → Prop) (A kill : List Nat) (hb : takeB ops listed i A = true) (hkA : kill.all (A.contains ·) = true) (hi : ops[i]? = some oi) (hd : oi.dst = some d)
    (hw : Region.wanted oi (yieldE ops n e) = true) (hop : ∀ h', S h' → rd P (execOp (evE n e) oi) h' = some (.value v)) (hS : S h) (hL : allK i L = true)
    (hk : kwp P ops n Q fuel ((fun j => !kill.contains j, S) :: L) (listed.setIfInBounds i true) (upd e d v) h) : kwp P ops n Q (fuel + 1) L listed e h :=
  k_first A kill hb hkA hi hd (fun a _ _ r _ => .inl ⟨by rw [yield_eq r]; exact hw, fun w' hS' => by rw [r.eval]; exact rd_sound _ (hop w'.heap hS')⟩) hS hL hk

/-- The one that comes up. -/
def stepE (P : Program) (ops : Array Oper) (n : Nat) (Q : Exit → Env → Heap → Prop) (fuel : Nat) (L : Held) (listed : Array Bool) (e : Env) (h : Heap) (j : Nat) : Prop :=
  ∀ a w w0, RepA n a e → w.heap = h → Rest w0 w → wpOp P ops (liftQ n w0 (NP Q)) j (anyK P .any ops (liftQ n w0 (NP Q)) fuel (wld (keepL j L)) (listed.setIfInBounds j true)) a w
theorem k_step {j : Nat} (hr : Region.ready .any ops listed = [j]) (hs : stepE P ops n Q fuel L listed e h j) : kwp P ops n Q (fuel + 1) L listed e h := by
  intro hl a w w0 r hw R
  refine ⟨allS_wld (hw ▸ hl), fun h0 => (by rw [hr] at h0; cases h0), fun k hk => ?_⟩
  rw [hr] at hk
  obtain rfl : k = j := by simpa using hk
  rw [keepL_wld]
  exact hs a w w0 r hw R
theorem step_val {j : Nat} {o : Oper} {d : Nat} (hj : ops[j]? = some o) (hd : o.dst = some d) (hg : Region.wanted o (yieldE ops n e) = true)
    (ho : hp P (execOp (evE n e) o) (nextE P fun v h' => allS (keepL j L) h' ∧ kwp P ops n Q fuel (keepL j L) (listed.setIfInBounds j true) (upd e d v) h') h) : stepE P ops n Q fuel L listed e h j := by
  intro a w w0 r hw R
  unfold wpOp
  rw [hj]
  simp only []
  rw [yield_eq r, if_pos hg]
  subst hw
  refine .inl ?_
  obtain ⟨nx, w', hr, R', q⟩ := hp_sound _ ho
  unfold Oper.wp
  rw [r.eval, hr]
  cases nx with
  | value v => simp only [Oper.upon, hd]; exact q.2 q.1 _ w' w0 (r.put d v) rfl (R.trans R')
  | skip => simp only [Oper.upon, hd]; exact q.2 q.1 _ w' w0 (r.put d undef) rfl (R.trans R')
  | enter f args =>
    simp only [Oper.upon, hd]
    refine (q w' rfl).mono ?_
    rintro en w'' ⟨v, rfl, R'', q'⟩
    exact q'.2 q'.1 _ w'' w0 (r.put d v) rfl ((R.trans R').trans R'')
  | _ => exact q.elim
theorem step_do {j : Nat} {o : Oper} (hj : ops[j]? = some o) (hd : o.dst = none) (hg : Region.wanted o (yieldE ops n e) = true)
    (ho : hp P (execOp (evE n e) o) (nextE P fun _ h' => allS (keepL j L) h' ∧ kwp P ops n Q fuel (keepL j L) (listed.setIfInBounds j true) e h') h) : stepE P ops n Q fuel L listed e h j := by
  intro a w w0 r hw R
  unfold wpOp
  rw [hj]
  simp only []
  rw [yield_eq r, if_pos hg]
  subst hw
  refine .inl ?_
  obtain ⟨nx, w', hr, R', q⟩ := hp_sound _ ho
  unfold Oper.wp
  rw [r.eval, hr]
  cases nx with
  | value v => simp only [Oper.upon, hd]; exact q.2 q.1 _ w' w0 r rfl (R.trans R')
  | skip => simp only [Oper.upon, hd]; exact q.2 q.1 _ w' w0 r rfl (R.trans R')
  | enter f args =>
    simp only [Oper.upon, hd]
    refine (q w' rfl).mono ?_
    rintro en w'' ⟨v, rfl, R'', q'⟩
    exact q'.2 q'.1 _ w'' w0 r rfl ((R.trans R').trans R'')
  | _ => exact q.elim
end
end Go.Hp
