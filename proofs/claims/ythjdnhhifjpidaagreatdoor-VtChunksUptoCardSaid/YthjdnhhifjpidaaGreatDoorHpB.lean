/-
  REASONING ABOUT THE PRINTED FUNCTIONS: one's own blocks, and steps over them. Own work; no program.
-/
import Derived.Test.YthjdnhhifjpidaaGreatDoorHpT
set_option linter.unusedVariables false
set_option linter.unusedSimpArgs false
namespace Go.Hp

/-- What has grown since h0, and blocks that are ours, with their cells. -/
structure OwnR (h0 h : Heap) (l : List (Nat × Array Value × TypeId)) : Prop where
  ext : Ext h0 h
  blk : ∀ x ∈ l, Blk h x.1 x.2.1 x.2.2 ∧ h0.size ≤ x.1
  nd : (l.map (·.1)).Nodup
/-- What stays as it is: memory as it was, and some later blocks. -/
structure Base where
  h : Heap
  X : List (Nat × Array Value × TypeId)
instance : Coe Heap Base := ⟨fun h => ⟨h, []⟩⟩
def Own (h0 : Base) (h : Heap) (l : List (Nat × Array Value × TypeId)) : Prop := OwnR h0.h h (l ++ h0.X)
theorem OwnR.tail {h0 h : Heap} {x l} (ho : OwnR h0 h (x :: l)) : OwnR h0 h l := ⟨ho.ext, fun y hy => ho.blk y (List.mem_cons_of_mem _ hy), (List.nodup_cons.1 (by simpa using ho.nd)).2⟩
theorem OwnR.new {h0 h h1 : Heap} {b c t l} (ho : OwnR h0 h l) (hn : New h b h1 c t) : OwnR h0 h1 ((b, c, t) :: l) := by
  refine ⟨ho.ext.trans hn.ext, fun x hx => ?_, ?_⟩
  · rcases List.mem_cons.1 hx with rfl | hx
    · exact ⟨hn.blk, hn.ge ho.ext⟩
    · exact ⟨(ho.blk x hx).1.ext hn.ext, (ho.blk x hx).2⟩
  · simp only [List.map_cons, List.nodup_cons]
    refine ⟨fun hm => ?_, ho.nd⟩
    obtain ⟨y, hy, he⟩ := List.mem_map.1 hm
    exact hn.ne (ho.blk y hy).1 he.symm
theorem OwnR.putAt {h0 h h1 : Heap} {b c c' t} : ∀ {l l2 : List (Nat × Array Value × TypeId)}, OwnR h0 h (l ++ (b, c, t) :: l2) → Put h b h1 c' t → OwnR h0 h1 (l ++ (b, c', t) :: l2) := by
  intro l l2 ho hp
  have hnd := ho.nd
  simp only [List.map_append, List.map_cons, List.nodup_append, List.nodup_cons] at hnd
  refine ⟨hp.ext ho.ext (ho.blk (b, c, t) (by simp)).2, fun x hx => ?_, by simpa using ho.nd⟩
  rcases List.mem_append.1 hx with hx | hx
  · have hne : x.1 ≠ b := fun he => hnd.2.2 x.1 (List.mem_map.2 ⟨x, hx, rfl⟩) b (by simp) he
    exact ⟨hp.old (ho.blk x (List.mem_append.2 (.inl hx))).1 hne, (ho.blk x (List.mem_append.2 (.inl hx))).2⟩
  · rcases List.mem_cons.1 hx with rfl | hx
    · exact ⟨hp.blk, (ho.blk (b, c, t) (by simp)).2⟩
    · have hne : x.1 ≠ b := fun he => hnd.2.1.1 (List.mem_map.2 ⟨x, hx, he⟩)
      exact ⟨hp.old (ho.blk x (List.mem_append.2 (.inr (List.mem_cons_of_mem _ hx)))).1 hne, (ho.blk x (List.mem_append.2 (.inr (List.mem_cons_of_mem _ hx)))).2⟩
theorem Own.ext {h0 : Base} {h : Heap} {l} (ho : Own h0 h l) : Ext h0.h h := OwnR.ext ho
theorem Own.blk {h0 : Base} {h : Heap} {l} (ho : Own h0 h l) : ∀ x ∈ l, Blk h x.1 x.2.1 x.2.2 ∧ h0.h.size ≤ x.1 := fun x hx => OwnR.blk ho x (List.mem_append.2 (.inl hx))
theorem Own.init (h : Heap) : Own (h : Base) h [] := (⟨Ext.refl h, by simp, by simp⟩ : OwnR h h [])
theorem Own.get0 {h0 : Base} {h : Heap} {b c t l} (ho : Own h0 h ((b, c, t) :: l)) : Blk h b c t := (ho.blk _ (List.mem_cons_self ..)).1
theorem Own.tail {h0 : Base} {h : Heap} {x l} (ho : Own h0 h (x :: l)) : Own h0 h l := OwnR.tail ho
theorem Own.get1 {h0 : Base} {h : Heap} {x b c t l} (ho : Own h0 h (x :: (b, c, t) :: l)) : Blk h b c t := ho.tail.get0
theorem Own.get2 {h0 : Base} {h : Heap} {x y b c t l} (ho : Own h0 h (x :: y :: (b, c, t) :: l)) : Blk h b c t := ho.tail.tail.get0
theorem OwnR.gap {h0 h h1 : Heap} {l} (ho : OwnR h0 h l) (he : Ext h h1) : OwnR h0 h1 l := ⟨ho.ext.trans he, fun x hx => ⟨(ho.blk x hx).1.ext he, (ho.blk x hx).2⟩, ho.nd⟩
theorem Own.gap {h0 : Base} {h h1 : Heap} {l} (ho : Own h0 h l) (he : Ext h h1) : Own h0 h1 l := OwnR.gap ho he
theorem Own.new {h0 : Base} {h h1 : Heap} {b c t l} (ho : Own h0 h l) (hn : New h b h1 c t) : Own h0 h1 ((b, c, t) :: l) := OwnR.new ho hn
theorem Own.putAt {h0 : Base} {h h1 : Heap} {b c c' t} {l l2 : List (Nat × Array Value × TypeId)} (ho : Own h0 h (l ++ (b, c, t) :: l2)) (hp : Put h b h1 c' t) : Own h0 h1 (l ++ (b, c', t) :: l2) := by
  have h1 : OwnR h0.h h (l ++ (b, c, t) :: (l2 ++ h0.X)) := by simpa [Own] using ho
  have h2 := OwnR.putAt h1 hp
  show OwnR h0.h _ _
  simpa using h2
/-- Blocks become such that stay as they are, and back. -/
theorem Own.fix {h0 : Base} {h : Heap} {l X} (ho : Own h0 h (l ++ X)) : Own ⟨h0.h, X ++ h0.X⟩ h l := by
  show OwnR h0.h h (l ++ (X ++ h0.X))
  rw [← List.append_assoc]
  exact ho
theorem Own.unfix {h0 : Base} {h : Heap} {l X} (ho : Own ⟨h0.h, X ++ h0.X⟩ h l) : Own h0 h (l ++ X) := by
  show OwnR h0.h h ((l ++ X) ++ h0.X)
  rw [List.append_assoc]
  exact ho

theorem stN_blk {b off : Nat} {t : TypeId} {K : Heap → Prop} : ∀ {vs : List Value} {i : Nat} {h : Heap} {c : Array Value}, Blk h b c t → off + i + vs.length ≤ c.size →
    (∀ h1, Put h b h1 (setL c (off + i) vs) t → K h1) → stN ⟨b, off, none⟩ vs i h K
  | [], _, h, c, hb, _, hk => hk h ⟨hb, rfl, fun _ _ => rfl⟩
  | v :: vs, i, h, c, hb, hle, hk => by
    simp only [List.length_cons] at hle
    have hadd : (⟨b, off, none⟩ : Addr).add i = ⟨b, off + i, none⟩ := add0 b off i
    unfold stN st
    rw [hadd]
    refine ⟨⟨_, hb.cell (off + i) (Array.getElem?_eq_getElem (by omega))⟩, hb.frozen _, ?_⟩
    refine stN_blk (hb.set (off + i) v) (by simp; omega) fun h1 hp => ?_
    refine hk h1 ⟨hp.blk, by rw [hp.size, setH_size], fun k hne => ?_⟩
    rw [hp.other k hne, setH_other (a := ⟨b, off + i, none⟩) (Ne.symm hne)]

section
variable {h0 : Base} {h : Heap} {l : List (Nat × Array Value × TypeId)} {b off : Nat} {c : Array Value} {t : TypeId} {x y : Nat × Array Value × TypeId}
theorem newB_o {K : Nat → Heap → Prop} (ho : Own h0 h l) (k : ∀ b h1, Own h0 h1 ((b, c, t) :: l) → K b h1) : newB h c t K := k _ _ (ho.new ⟨rfl, rfl⟩)
theorem gap_o {K : Heap → Prop} (ho : Own h0 h l) (k : ∀ h1, Own h0 h1 l → K h1) : gap h K := fun h1 he => k h1 (ho.gap he)
theorem st0 {vs : List Value} {K : Heap → Prop} (ho : Own h0 h ((b, c, t) :: l)) (hle : Nat.ble (off + vs.length) c.size = true) (k : ∀ h1, Own h0 h1 ((b, setL c off vs, t) :: l) → K h1) : stN ⟨b, off, none⟩ vs 0 h K :=
  stN_blk ho.get0 (Nat.le_of_ble_eq_true hle) fun h1 hp => k h1 (Own.putAt (l := []) ho hp)
theorem st1 {vs : List Value} {K : Heap → Prop} (ho : Own h0 h (x :: (b, c, t) :: l)) (hle : Nat.ble (off + vs.length) c.size = true) (k : ∀ h1, Own h0 h1 (x :: (b, setL c off vs, t) :: l) → K h1) : stN ⟨b, off, none⟩ vs 0 h K :=
  stN_blk ho.get1 (Nat.le_of_ble_eq_true hle) fun h1 hp => k h1 (Own.putAt (l := [x]) ho hp)
theorem ldI_b {k : IntKind} {v : Int} {K : Int → Prop} (hb : Blk h b c t) (hv : c[off]? = some (.int k v)) (hk : K v) : ldI h k ⟨b, off, none⟩ K := ⟨v, hb.cell off hv, hk⟩
theorem ldB_b {v : Bool} {K : Bool → Prop} (hb : Blk h b c t) (hv : c[off]? = some (.bool v)) (hk : K v) : ldB h ⟨b, off, none⟩ K := ⟨v, hb.cell off hv, hk⟩
theorem ldS_b {v : ByteArray} {K : ByteArray → Prop} (hb : Blk h b c t) (hv : c[off]? = some (.string v)) (hk : K v) : ldS h ⟨b, off, none⟩ K := ⟨v, hb.cell off hv, hk⟩
theorem ldI0 {k : IntKind} {v : Int} {K : Int → Prop} (ho : Own h0 h ((b, c, t) :: l)) (hv : c[off]? = some (.int k v)) (hk : K v) : ldI h k ⟨b, off, none⟩ K := ldI_b ho.get0 hv hk
theorem ldI1 {k : IntKind} {v : Int} {K : Int → Prop} (ho : Own h0 h (x :: (b, c, t) :: l)) (hv : c[off]? = some (.int k v)) (hk : K v) : ldI h k ⟨b, off, none⟩ K := ldI_b ho.get1 hv hk
theorem ldI2 {k : IntKind} {v : Int} {K : Int → Prop} (ho : Own h0 h (x :: y :: (b, c, t) :: l)) (hv : c[off]? = some (.int k v)) (hk : K v) : ldI h k ⟨b, off, none⟩ K := ldI_b ho.get2 hv hk
theorem ldB0 {v : Bool} {K : Bool → Prop} (ho : Own h0 h ((b, c, t) :: l)) (hv : c[off]? = some (.bool v)) (hk : K v) : ldB h ⟨b, off, none⟩ K := ldB_b ho.get0 hv hk
theorem ldS0 {v : ByteArray} {K : ByteArray → Prop} (ho : Own h0 h ((b, c, t) :: l)) (hv : c[off]? = some (.string v)) (hk : K v) : ldS h ⟨b, off, none⟩ K := ldS_b ho.get0 hv hk
end
theorem nz_i {a : Addr} {K : Addr → Prop} (hk : K a) : nz (some a) K := ⟨a, rfl, hk⟩
theorem Ext.cellsAt {h h' : Heap} (he : Ext h h') {a : Addr} : ∀ {vs : List Value} {k : Nat}, cellsAt h a k vs → cellsAt h' a k vs
  | [], _, _ => trivial
  | v :: vs, k, hc => ⟨he.cell hc.1, Ext.cellsAt he hc.2⟩
theorem Own.tab {h0 : Base} {h : Heap} {l} {a : Addr} {vs : List Value} {k : Nat} (ho : Own h0 h l) (hc : cellsAt h0.h a k vs) : cellsAt h a k vs := ho.ext.cellsAt hc

end Go.Hp
