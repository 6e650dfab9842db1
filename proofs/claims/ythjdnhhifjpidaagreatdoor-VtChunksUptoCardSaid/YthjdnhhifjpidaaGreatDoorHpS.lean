/-
  SLICES THAT ARE ONE's OWN. Own work; no program.
-/
import Derived.Test.YthjdnhhifjpidaaGreatDoorHpB
set_option linter.unusedVariables false
set_option linter.unusedSimpArgs false
namespace Go.Hp

open Classical in
theorem pc {l l' : List (Nat × Array Value × TypeId)} (h : ∀ x, l.count x = l'.count x := by intro x; simp only [List.count_append, List.count_cons, List.count_nil]; omega) : l.Perm l' := List.perm_iff_count.2 h
theorem OwnR.perm {h0 h : Heap} {l l' : List (Nat × Array Value × TypeId)} (ho : OwnR h0 h l) (hp : l.Perm l') : OwnR h0 h l' :=
  ⟨ho.ext, fun x hx => ho.blk x (hp.mem_iff.2 hx), (hp.map (·.1)).nodup_iff.1 ho.nd⟩
theorem OwnR.sub {h0 h : Heap} {l l' : List (Nat × Array Value × TypeId)} (ho : OwnR h0 h l) (hp : l'.Sublist l) : OwnR h0 h l' :=
  ⟨ho.ext, fun x hx => ho.blk x (hp.mem hx), (hp.map (·.1)).nodup ho.nd⟩
theorem Own.perm {h0 : Base} {h : Heap} {l l' : List (Nat × Array Value × TypeId)} (ho : Own h0 h l) (hp : l.Perm l') : Own h0 h l' := OwnR.perm ho (hp.append_right _)
theorem Own.sub {h0 : Base} {h : Heap} {l l' : List (Nat × Array Value × TypeId)} (ho : Own h0 h l) (hp : l'.Sublist l) : Own h0 h l' := OwnR.sub ho (hp.append_right _)
theorem Own.mid {h0 : Base} {h : Heap} {pre l : List (Nat × Array Value × TypeId)} {x} (ho : Own h0 h (pre ++ x :: l)) : Blk h x.1 x.2.1 x.2.2 ∧ h0.h.size ≤ x.1 := ho.blk x (by simp)
theorem cellsAt_blk {h : Heap} {b : Nat} {cs : Array Value} {t : TypeId} (hb : Blk h b cs t) : ∀ (vs : List Value) (off k : Nat), (∀ j v, vs[j]? = some v → cs[off + k + j]? = some v) → cellsAt h ⟨b, off, none⟩ k vs
  | [], _, _, _ => trivial
  | v :: vs, off, k, hv => by
    refine ⟨?_, cellsAt_blk hb vs off (k + 1) fun j w hw => ?_⟩
    · rw [add0]; exact hb.cell _ (by have := hv 0 v (by simp); simpa using this)
    · have := hv (j + 1) w (by simpa using hw)
      rwa [show off + k + (j + 1) = off + (k + 1) + j by omega] at this

/-- A slice of one's own: its elements' values, and the block that it stands in (none: it is nil). -/
def SlO {α : Type} (f : α → List Value) (sz : Nat) (t : TypeId) (a : Option Addr) (n c : Nat) (ks : List α) (o : List (Nat × Array Value × TypeId)) : Prop :=
  n = ks.length ∧ ((o = [] ∧ a = none ∧ c = 0 ∧ ks = []) ∨ ∃ b cs rest, o = [(b, cs, t)] ∧ a = some ⟨b, 0, none⟩ ∧ cs.toList = ks.flatMap f ++ rest ∧ rest.length = (c - n) * sz ∧ n ≤ c)
theorem SlO.nil {α : Type} {f : α → List Value} {sz : Nat} {t : TypeId} : SlO f sz t none 0 0 [] [] := ⟨rfl, .inl ⟨rfl, rfl, rfl, rfl⟩⟩
section
variable {α : Type} {f : α → List Value} {sz : Nat} {t : TypeId}
theorem SlO.srcAt {a : Option Addr} {n c : Nat} {ks : List α} {o pre l} {h0 : Base} {h : Heap} (hs : SlO f sz t a n c ks o) (ho : Own h0 h (pre ++ (o ++ l))) : srcAt h a (ks.flatMap f) := by
  obtain ⟨hn, ⟨ho', rfl, _, rfl⟩ | ⟨b, cs, rest, rfl, rfl, hcs, hr, hle⟩⟩ := hs
  · rfl
  · refine cellsAt_blk (Own.mid (x := (b, cs, t)) ho).1 _ 0 0 fun j v hj => ?_
    rw [← Array.getElem?_toList, hcs, show 0 + 0 + j = j by omega, List.getElem?_append_left (List.getElem?_eq_some_iff.1 hj).1]
    exact hj
theorem setL_toList : ∀ (vs : List Value) (c : Array Value) (off : Nat), off + vs.length ≤ c.size → (setL c off vs).toList = c.toList.take off ++ vs ++ c.toList.drop (off + vs.length)
  | [], c, off, _ => by simp [setL]
  | v :: vs, c, off, hle => by
    simp only [List.length_cons] at hle
    have ih := setL_toList vs (c.setIfInBounds off v) (off + 1) (by simp; omega)
    simp only [setL]
    rw [ih]
    have hlt : off < c.toList.length := by simpa using (show off < c.size by omega)
    simp only [Array.toList_setIfInBounds, List.length_cons]
    apply List.ext_getElem?
    intro i
    simp only [List.getElem?_append, List.getElem?_take, List.getElem?_drop, List.length_append, List.length_take, List.length_set, List.getElem?_set, List.getElem?_cons, List.length_cons, Array.length_toList] at *
    grind
theorem SlO.app {h0 : Base} {h : Heap} {a : Option Addr} {n c by_ : Nat} {ks js : List α} {o pre l} {z : List Value} {K : Option Addr → Nat → Heap → Prop} (hf : ∀ k, (f k).length = sz) (hz : z.length = sz) (hs : SlO f sz t a n c ks o) (ho : Own h0 h (pre ++ (o ++ l)))
    (hb : (n + js.length) * by_ ≤ 140737488355328) (hb2 : n + js.length ≤ 9223372036854775807)
    (k : ∀ a' c' o' h', Own h0 h' (pre ++ (o' ++ l)) → SlO f sz t a' (n + js.length) c' (ks ++ js) o' → K a' c' h') : appH h t by_ z a n c (js.flatMap f) js.length K := by
  have hfl := flat_len f hf
  refine ⟨hb, hb2, fun hc => ?_, fun hc => ?_⟩
  · obtain ⟨hn, ⟨ho', rfl, hc0, hk0⟩ | ⟨b, cs, rest, rfl, rfl, hcs, hr, hle⟩⟩ := hs
    · subst ho' hc0 hk0
      have hj0 : js = [] := by cases js with
        | nil => rfl
        | cons x js => simp at hc
      subst hj0
      exact k none 0 [] h (by simpa using ho) ⟨by simpa using hn, .inl ⟨rfl, rfl, rfl, rfl⟩⟩
    · have hsz : cs.size = c * sz := by
        rw [← Array.length_toList, hcs, List.length_append, hfl, hr, ← hn, ← Nat.add_mul]
        congr 1; omega
      have hadd : (⟨b, 0, none⟩ : Addr).add (n * z.length) = ⟨b, n * sz, none⟩ := by rw [add0, hz]; simp
      show stN ((⟨b, 0, none⟩ : Addr).add (n * z.length)) _ 0 h _
      rw [hadd]
      have hle2 : n * sz + (js.flatMap f).length ≤ cs.size := by
        rw [hfl, hsz, ← Nat.add_mul]; exact Nat.mul_le_mul_right _ hc
      refine stN_blk (Own.mid (x := (b, cs, t)) ho).1 hle2 fun h1 hp => ?_
      refine k _ _ [(b, setL cs (n * sz + 0) (js.flatMap f), t)] h1 (Own.putAt (l2 := l) (by simpa using ho) hp) ⟨by simp [hn], .inr ⟨b, _, rest.drop (js.length * sz), rfl, rfl, ?_, ?_, hc⟩⟩
      · rw [setL_toList _ _ _ (by simpa using hle2), hcs]
        have e : n * sz + 0 = (ks.flatMap f).length := by rw [hfl, hn]; rfl
        rw [e, List.take_left, hfl js, List.drop_append, List.drop_of_length_le (by omega)]
        simp [List.flatMap_append]
      · rw [List.length_drop, hr, ← Nat.sub_mul]; congr 1; omega
  · refine ⟨ks.flatMap f, by rw [hfl, hs.1, hz], hs.srcAt ho, fun nc h1 h2 => ?_⟩
    have hn := hs.1
    refine k _ _ [(h.size, (ks.flatMap f ++ js.flatMap f ++ zeros z (nc - (n + js.length))).toArray, t)] _ ?_ ⟨by simp [hn], .inr ⟨h.size, _, zeros z (nc - (n + js.length)), rfl, rfl, by simp [List.flatMap_append], ?_, h1⟩⟩
    · have ho2 : Own h0 h (pre ++ l) := ho.sub (by simp)
      have ho3 := ho2.new (b := h.size) (h1 := h.push (.cells (ks.flatMap f ++ js.flatMap f ++ zeros z (nc - (n + js.length))).toArray t)) (c := (ks.flatMap f ++ js.flatMap f ++ zeros z (nc - (n + js.length))).toArray) (t := t) ⟨rfl, rfl⟩
      exact ho3.perm (by simpa using (List.perm_middle (a := _) (l₁ := pre) (l₂ := l)).symm)
    · simp [zeros, List.length_flatten, hz]
theorem SlO.get {a : Option Addr} {n c : Nat} {ks : List α} {o pre l} {h0 : Base} {h : Heap} (hf : ∀ k, (f k).length = sz) (hs : SlO f sz t a n c ks o) (ho : Own h0 h (pre ++ (o ++ l))) (i : Nat) (d : α) (hi : i < n) :
    ∃ p, a = some p ∧ ∀ j v, (f (ks.getD i d))[j]? = some v → cellH h ((p.add (i * sz)).add j) = some v := by
  have hsrc := hs.srcAt ho
  obtain ⟨hn, ⟨_, rfl, _, rfl⟩ | ⟨b, cs, rest, rfl, rfl, hcs, hr, hle⟩⟩ := hs
  · simp at hn; omega
  · refine ⟨_, rfl, fun j v hv => ?_⟩
    exact cell_tab f ks d hsrc hf (by omega) j hv
end
end Go.Hp
