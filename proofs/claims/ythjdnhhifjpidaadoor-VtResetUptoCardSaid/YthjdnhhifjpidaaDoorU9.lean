import Derived.Test.YthjdnhhifjpidaaDoorU8
set_option linter.unusedVariables false
set_option linter.unusedSimpArgs false
set_option maxRecDepth 100000
namespace Go.Proofs.YthjdnhhifjpidaaDoor.M
open Go Go.Hp

/-- What a screen keeps to. -/
structure Dim (S : Scr) : Prop where
  w0 : 1 ≤ S.w
  w1 : S.w ≤ 1000
  h0 : 1 ≤ S.h
  h1 : S.h ≤ 1000
  m0 : 0 ≤ S.most
  m1 : S.most ≤ 2000
  past : (S.past.length : Int) ≤ S.most
  main : (S.main.length : Int) = S.h ∧ ∀ g ∈ S.main, (g.length : Int) = S.w
  other : S.alt = true → (S.other.length : Int) = S.h ∧ ∀ g ∈ S.other, (g.length : Int) = S.w
theorem Dim.sh {S : Scr} (d : Dim S) : (S.sh.length : Int) = S.h ∧ ∀ g ∈ S.sh, (g.length : Int) = S.w := by
  unfold Scr.sh
  split
  · rename_i ha; exact d.other ha
  · exact d.main
theorem Dim.setSh {S : Scr} (d : Dim S) {R : List (List Gl)} (h1 : (R.length : Int) = S.h) (h2 : ∀ g ∈ R, (g.length : Int) = S.w) : Dim (S.setSh R) := by
  unfold Scr.setSh
  split
  · exact ⟨d.w0, d.w1, d.h0, d.h1, d.m0, d.m1, d.past, d.main, fun _ => ⟨h1, h2⟩⟩
  · rename_i ha; exact ⟨d.w0, d.w1, d.h0, d.h1, d.m0, d.m1, d.past, ⟨h1, h2⟩, fun hh => absurd hh ha⟩
theorem Dim.keep {S : Scr} (d : Dim S) (g : List Gl) : Dim (keepV S g) := by
  have hp := d.past
  have h0 := d.m0
  refine ⟨d.w0, d.w1, d.h0, d.h1, d.m0, d.m1, ?_, d.main, d.other⟩
  show (((if S.most < ((S.past.length + 1 : Nat) : Int) then (S.past ++ [g]).drop (((S.past.length + 1 : Nat) : Int) - S.most).toNat else S.past ++ [g]) : List (List Gl)).length : Int) ≤ S.most
  split
  · rw [List.length_drop, List.length_append, List.length_singleton]; omega
  · rw [List.length_append, List.length_singleton]; omega
theorem mem_shiftUp {α : Type} {xs : List α} {t b : Nat} {new x : α} (h : x ∈ shiftUp xs t b new) : x ∈ xs ∨ x = new := by
  unfold shiftUp at h
  simp only [List.mem_append, List.mem_cons] at h
  rcases h with h | h | h | h
  · exact .inl (List.mem_of_mem_take h)
  · exact .inl (List.mem_of_mem_drop (List.mem_of_mem_take h))
  · exact .inr h
  · exact .inl (List.mem_of_mem_drop h)
theorem shiftUp_len {α : Type} {xs : List α} {t b : Nat} {new : α} (h1 : t ≤ b) (h2 : b < xs.length) : (shiftUp xs t b new).length = xs.length := by
  unfold shiftUp
  simp only [List.length_append, List.length_cons, List.length_take, List.length_drop]
  omega
def emptyRow (S : Scr) : List Gl := List.replicate S.w.toNat (blankG 0 S.pl.back 0)
def upOne (S : Scr) (t b : Int) : Scr := S.setSh (shiftUp S.sh t.toNat b.toNat (emptyRow S))
def keepOne (S : Scr) (t : Int) (keeps : Bool) : Scr := if (keeps && decide (t = 0)) = true then if S.alt = true then S else keepV S (S.sh.getD 0 []) else S
def upL (t b : Int) (keeps : Bool) : Nat → Scr → Scr
  | 0, S => S
  | n + 1, S => upL t b keeps n (upOne (keepOne S t keeps) t b)
theorem setSh_w (S : Scr) (R) : (S.setSh R).w = S.w ∧ (S.setSh R).alt = S.alt ∧ (S.setSh R).h = S.h := by
  unfold Scr.setSh
  split <;> exact ⟨rfl, rfl, rfl⟩
theorem Dim.upOne {S : Scr} (d : Dim S) {t b : Int} (t0 : 0 ≤ t) (tb : t ≤ b) (bh : b < S.h) : Dim (upOne S t b) := by
  have hs := d.sh
  have w0 := d.w0
  refine d.setSh ?_ fun g hg => ?_
  · rw [shiftUp_len (by omega) (by omega)]; exact hs.1
  · rcases mem_shiftUp hg with h | h
    · exact hs.2 g h
    · rw [h]; unfold emptyRow; rw [List.length_replicate]; omega
theorem Dim.keepOne {S : Scr} (d : Dim S) (t : Int) (k : Bool) : Dim (keepOne S t k) := by
  unfold M.keepOne
  split
  · split
    · exact d
    · exact d.keep _
  · exact d
theorem keepOne_w (S : Scr) (t : Int) (k : Bool) : (keepOne S t k).w = S.w ∧ (keepOne S t k).alt = S.alt ∧ (keepOne S t k).h = S.h ∧ (keepOne S t k).sh = S.sh := by
  unfold keepOne
  split
  · split
    · exact ⟨rfl, rfl, rfl, rfl⟩
    · exact ⟨rfl, rfl, rfl, rfl⟩
  · exact ⟨rfl, rfl, rfl, rfl⟩
theorem cell_inv {h : Heap} {b : Nat} {cs : Array Value} {t : TypeId} {k : Nat} {v : Value} (hb : Blk h b cs t) (hc : cellH h ⟨b, k, none⟩ = some v) : cs[k]? = some v := by
  unfold cellH at hc
  rw [show h[(⟨b, k, none⟩ : Addr).block]? = _ from hb] at hc
  exact hc
/-- One round of up, where the history has been seen to. -/
theorem up_round {Kn : Addr → Int → Int → Bool → Option Addr → Nat → Nat → Int → Int → Heap → Prop} {h0 : Base} {h : Heap} {s : Nat} {S : Scr} {a : Option Addr} {n c : Nat} {t b y43 y44 : Int} {y41 : Bool} (hs : Rep h0 h s S) (d : Dim S) (hc : cellH h (shA S s) = some (.slice a n c)) (t0 : 0 ≤ t) (tb : t ≤ b) (bh : b < S.h)
    (hk : ∀ h', Rep h0 h' s (upOne S t b) → cellH h' (shA S s) = some (.slice a n c) → Kn ⟨s, 0, none⟩ t b y41 a n c y43 y44 h') : vt_Screen_up_j1 Kn (some ⟨s, 0, none⟩) t b y41 a n c y43 y44 h := by
  obtain ⟨A, a', n', c', ks, oh, bs, l, ho, hc', h1, h2, h3⟩ := hs.focus
  obtain ⟨rfl, rfl, rfl⟩ : a = a' ∧ n = n' ∧ c = c' := by
    rw [hc] at hc'
    simpa using hc'
  have hn := h1.1
  have hk2 := h2.1
  have hsh := d.sh
  have hh := d.h1
  have hw0 := d.w0
  have hw1 := d.w1
  obtain ⟨p, hp, _⟩ := SlO.get rf_len h1 (pre := [(s, scrC S A, 69)]) (l := bs.flatten ++ l) ho b.toNat (none, 0, 0) (by omega)
  have hcn : n ≤ c := by
    obtain ⟨_, ⟨_, e2, _, _⟩ | ⟨_, _, _, _, _, _, _, hle⟩⟩ := h1
    · rw [e2] at hp; cases hp
    · exact hle
  have hcell : ∀ h', Blk h' s (scrC S A) 69 → cellH h' (shA S s) = some (.slice a n c) := by
    intro h' hb
    unfold shA at hc ⊢
    split
    · rename_i ha; rw [if_pos ha] at hc; exact hb.cell 5 (cell_inv ho.get0 hc)
    · rename_i ha; rw [if_neg ha] at hc; exact hb.cell 3 (cell_inv ho.get0 hc)
  refine up_j1_sp (w := S.w) (bk := S.pl.back) ho rfl rfl h1 h2 hp t0 tb (by omega) (by omega) hcn (by omega) (by omega) fun h' ks' oh' bs' ho' hs' hr' => ?_
  exact hk h' (h3 h' ks' oh' bs' _ ho' hs' hr') (hcell h' ho'.get0)
end Go.Proofs.YthjdnhhifjpidaaDoor.M
