import Derived.Test.YthjdnhhifjpidaaDoorU22
set_option linter.unusedVariables false
set_option linter.unusedSimpArgs false
set_option maxRecDepth 100000
namespace Go.Proofs.YthjdnhhifjpidaaDoor.M
open Go Go.Hp

/-! ### A control sequence without a mark -/
def plain4 (S : Scr) (b : Int) (l : List Int) (n : Int) : Scr :=
  if b = 74 ∨ b = 75 then clearsV S b (atV l 0 0) else
  if b = 76 ∨ b = 77 then lines1V S b n else
  if b = 64 ∨ b = 80 ∨ b = 88 then placesV S b n else
  if b = 83 then unwait (upV S S.top S.bottom n true) else
  if b = 84 then unwait (downV S S.top S.bottom n) else othersV S b l n
def plain2 (S : Scr) (b : Int) (l : List Int) (n : Int) : Scr :=
  if b = 71 ∨ b = 96 then toV S (n - 1) S.pl.y else
  if b = 72 ∨ b = 102 then homeV S n (imax 1 (atV l 1 1)) else
  if b = 100 then homeV S n (S.pl.x + 1) else
  if b = 73 then tabV S n else
  if b = 90 then backV S n else plain4 S b l n
def plain1 (S : Scr) (b : Int) (l : List Int) (n : Int) : Scr :=
  if b = 65 then rowsUpV S n else
  if b = 66 ∨ b = 101 then rowsDownV S n else
  if b = 67 ∨ b = 97 then toV S (S.pl.x + n) S.pl.y else
  if b = 68 then toV S (S.pl.x - n) S.pl.y else
  if b = 69 then toV (rowsDownV S n) 0 (rowsDownV S n).pl.y else
  if b = 70 then toV (rowsUpV S n) 0 (rowsUpV S n).pl.y else plain2 S b l n
def plainV (S : Scr) (b : Int) (l : List Int) : Scr := plain1 S b l (imax 1 (atV l 0 1))
theorem imax1 (x : Int) : 1 ≤ imax 1 x := by unfold imax; split <;> omega
theorem Ok.plain {S : Scr} (o : Ok S) (b : Int) (l : List Int) : Ok (plainV S b l) := by
  unfold plainV
  have hn := imax1 (atV l 0 1)
  generalize imax 1 (atV l 0 1) = n at *
  unfold plain1
  refine ite_ok (fun _ => o.rowsUp _) (fun _ => ?_)
  refine ite_ok (fun _ => o.rowsDown _) (fun _ => ?_)
  refine ite_ok (fun _ => o.to _ _) (fun _ => ?_)
  refine ite_ok (fun _ => o.to _ _) (fun _ => ?_)
  refine ite_ok (fun _ => (o.rowsDown _).to _ _) (fun _ => ?_)
  refine ite_ok (fun _ => (o.rowsUp _).to _ _) (fun _ => ?_)
  unfold plain2
  refine ite_ok (fun _ => o.to _ _) (fun _ => ?_)
  refine ite_ok (fun _ => o.home _ _) (fun _ => ?_)
  refine ite_ok (fun _ => o.home _ _) (fun _ => ?_)
  refine ite_ok (fun _ => o.tab _) (fun _ => ?_)
  refine ite_ok (fun _ => o.back _) (fun _ => ?_)
  unfold plain4
  refine ite_ok (fun _ => o.clears _ _) (fun _ => ?_)
  refine ite_ok (fun _ => o.lines1 _ _) (fun _ => ?_)
  refine ite_ok (fun _ => o.places _ (by omega)) (fun _ => ?_)
  refine ite_ok (fun _ => (o.up o.c.t0 o.c.tb o.c.bh).unwait) (fun _ => ?_)
  refine ite_ok (fun _ => (o.down o.c.t0 o.c.tb o.c.bh).unwait) (fun _ => ?_)
  exact o.others b l hn
section
variable {h0 : Base} {h : Heap} {s : Nat} {S : Scr} {ob : Blks} {a : Option Addr} {n c : Nat} {l : List Int} {b m : Int} {q : Bool} {K : Heap → Prop}
theorem plain_j6 (ht : Tabs h0.h) (hs : RepX h0 h s S ob) (hl : SlO nf 1 3 a n c l ob) (o : Ok S) (hn : n ≤ 1000) (m0 : 1 ≤ m) (m1 : m ≤ 100000) (h1 : ¬ (b = 74 ∨ b = 75)) (h2 : ¬ (b = 76 ∨ b = 77)) (hq : q = decide (b = 64 ∨ b = 80 ∨ b = 88)) (hk : ∀ h1, Rep h0 h1 s (plain4 S b l m) → K h1) :
    vt_Screen_plain_j6 K (some ⟨s, 0, none⟩) b a n c m b q h := by
  have hr := hs.rep
  unfold vt_Screen_plain_j6
  unfold plain4 at hk
  rw [if_neg h1, if_neg h2] at hk
  subst hq
  by_cases h3 : b = 64 ∨ b = 80 ∨ b = 88
  · rw [if_pos h3] at hk
    rw [if_pos (by simpa using h3)]
    exact places_sp hr o (by omega) m1 hk
  rw [if_neg h3] at hk
  rw [if_neg (by simpa using h3)]
  by_cases h4 : b = 83
  · rw [if_pos h4] at hk ⊢
    refine nz_i ?_
    simp only [add0, Nat.zero_add]
    refine hr.ldi (v := S.top) (fun A => rfl) ?_
    refine hr.ldi (v := S.bottom) (fun A => rfl) ?_
    exact up_sp hr o.d o.c.t0 o.c.tb o.c.bh fun h5 hs5 => unwait_st hs5 hk
  rw [if_neg h4] at hk ⊢
  by_cases h5 : b = 84
  · rw [if_pos h5] at hk ⊢
    refine nz_i ?_
    simp only [add0, Nat.zero_add]
    refine hr.ldi (v := S.top) (fun A => rfl) ?_
    refine hr.ldi (v := S.bottom) (fun A => rfl) ?_
    exact down_sp hr o.d o.c.t0 o.c.tb o.c.bh fun h5 hs5 => unwait_st hs5 hk
  rw [if_neg h5] at hk ⊢
  exact others_sp ht hs hl o hn m0 m1 hk
theorem plain_j5 (ht : Tabs h0.h) (hs : RepX h0 h s S ob) (hl : SlO nf 1 3 a n c l ob) (o : Ok S) (hn : n ≤ 1000) (m0 : 1 ≤ m) (m1 : m ≤ 100000) (h1 : ¬ (b = 74 ∨ b = 75)) (hq : q = decide (b = 76 ∨ b = 77)) (hk : ∀ h1, Rep h0 h1 s (plain4 S b l m) → K h1) :
    vt_Screen_plain_j5 K (some ⟨s, 0, none⟩) b a n c m b q h := by
  have hr := hs.rep
  have hk0 := hk
  unfold vt_Screen_plain_j5
  unfold plain4 at hk
  rw [if_neg h1] at hk
  subst hq
  by_cases h3 : b = 76 ∨ b = 77
  · rw [if_pos h3] at hk
    rw [if_pos (by simpa using h3)]
    exact lines1_sp hr o hk
  rw [if_neg (by simpa using h3)]
  by_cases h4 : b = 64
  · rw [if_pos h4]
    exact plain_j6 ht hs hl o hn m0 m1 h1 h3 (by simp [h4]) hk0
  rw [if_neg h4]
  by_cases h5 : b = 80
  · rw [if_pos h5]
    exact plain_j6 ht hs hl o hn m0 m1 h1 h3 (by simp [h5]) hk0
  · rw [if_neg h5]
    exact plain_j6 ht hs hl o hn m0 m1 h1 h3 (by simp [h4, h5]) hk0
theorem plain_j4 (ht : Tabs h0.h) (hs : RepX h0 h s S ob) (hl : SlO nf 1 3 a n c l ob) (o : Ok S) (hn : n ≤ 1000) (m0 : 1 ≤ m) (m1 : m ≤ 100000) (hq : q = decide (b = 74 ∨ b = 75)) (hk : ∀ h1, Rep h0 h1 s (plain4 S b l m) → K h1) :
    vt_Screen_plain_j4 K (some ⟨s, 0, none⟩) b a n c m b q h := by
  have hsX : RepX h0 h s S (ob ++ []) := by rw [List.append_nil]; exact hs
  have hr := hs.rep
  have hk0 := hk
  unfold vt_Screen_plain_j4
  unfold plain4 at hk
  subst hq
  by_cases h3 : b = 74 ∨ b = 75
  · rw [if_pos h3] at hk
    rw [if_pos (by simpa using h3)]
    refine at_sp (hsX.ints hl) 0 ?_
    exact clears_sp hr o hk
  rw [if_neg (by simpa using h3)]
  by_cases h4 : b = 76
  · rw [if_pos h4]
    exact plain_j5 ht hs hl o hn m0 m1 h3 (by simp [h4]) hk0
  · rw [if_neg h4]
    exact plain_j5 ht hs hl o hn m0 m1 h3 (by simp [h4]) hk0
theorem plain_j3 (ht : Tabs h0.h) (hs : RepX h0 h s S ob) (hl : SlO nf 1 3 a n c l ob) (o : Ok S) (hn : n ≤ 1000) (m0 : 1 ≤ m) (m1 : m ≤ 100000) (h1 : ¬ (b = 71 ∨ b = 96)) (hq : q = decide (b = 72 ∨ b = 102)) (hk : ∀ h1, Rep h0 h1 s (plain2 S b l m) → K h1) :
    vt_Screen_plain_j3 K (some ⟨s, 0, none⟩) b a n c m b q h := by
  have hsX : RepX h0 h s S (ob ++ []) := by rw [List.append_nil]; exact hs
  have hr := hs.rep
  have hx0 := o.c.p.x0
  have hx1 := o.c.p.x1
  have hw1 := o.d.w1
  unfold vt_Screen_plain_j3
  unfold plain2 at hk
  rw [if_neg h1] at hk
  subst hq
  by_cases h3 : b = 72 ∨ b = 102
  · rw [if_pos h3] at hk
    rw [if_pos (by simpa using h3)]
    refine at_sp (hsX.ints hl) 1 ?_
    exact home_sp hr hk
  rw [if_neg h3] at hk
  rw [if_neg (by simpa using h3)]
  by_cases h4 : b = 100
  · rw [if_pos h4] at hk ⊢
    refine nz_i ?_
    simp only [add0, Nat.zero_add]
    refine hr.ldi (v := S.pl.x) (fun A => rfl) ?_
    rw [wrap64 (x := S.pl.x + 1) (by omega) (by omega)]
    exact home_sp hr hk
  rw [if_neg h4] at hk ⊢
  by_cases h5 : b = 73
  · rw [if_pos h5] at hk ⊢
    exact tab_sp hr o (by omega) hk
  rw [if_neg h5] at hk ⊢
  by_cases h6 : b = 90
  · rw [if_pos h6] at hk ⊢
    exact back_sp hr o (by omega) hk
  rw [if_neg h6] at hk ⊢
  by_cases h7 : b = 74
  · rw [if_pos h7]
    exact plain_j4 ht hs hl o hn m0 m1 (by simp [h7]) hk
  · rw [if_neg h7]
    exact plain_j4 ht hs hl o hn m0 m1 (by simp [h7]) hk
theorem plain_j2 (ht : Tabs h0.h) (hs : RepX h0 h s S ob) (hl : SlO nf 1 3 a n c l ob) (o : Ok S) (hn : n ≤ 1000) (m0 : 1 ≤ m) (m1 : m ≤ 100000) (hq : q = decide (b = 71 ∨ b = 96)) (hk : ∀ h1, Rep h0 h1 s (plain2 S b l m) → K h1) :
    vt_Screen_plain_j2 K (some ⟨s, 0, none⟩) b a n c m b q h := by
  have hr := hs.rep
  have hk0 := hk
  unfold vt_Screen_plain_j2
  unfold plain2 at hk
  subst hq
  by_cases h3 : b = 71 ∨ b = 96
  · rw [if_pos h3] at hk
    rw [if_pos (by simpa using h3)]
    refine nz_i ?_
    simp only [add0, Nat.zero_add]
    refine hr.ldi (v := S.pl.y) (fun A => rfl) ?_
    rw [wrap64 (x := m - 1) (by omega) (by omega)]
    exact to_sp hr hk
  rw [if_neg (by simpa using h3)]
  by_cases h4 : b = 72
  · rw [if_pos h4]
    exact plain_j3 ht hs hl o hn m0 m1 h3 (by simp [h4]) hk0
  · rw [if_neg h4]
    exact plain_j3 ht hs hl o hn m0 m1 h3 (by simp [h4]) hk0
theorem plain_j1 (ht : Tabs h0.h) (hs : RepX h0 h s S ob) (hl : SlO nf 1 3 a n c l ob) (o : Ok S) (hn : n ≤ 1000) (m0 : 1 ≤ m) (m1 : m ≤ 100000) (h1 : ¬ b = 65) (h2 : ¬ (b = 66 ∨ b = 101)) (hq : q = decide (b = 67 ∨ b = 97)) (hk : ∀ h1, Rep h0 h1 s (plain1 S b l m) → K h1) :
    vt_Screen_plain_j1 K (some ⟨s, 0, none⟩) b a n c m b q h := by
  have hr := hs.rep
  have hx0 := o.c.p.x0
  have hx1 := o.c.p.x1
  have hw1 := o.d.w1
  unfold vt_Screen_plain_j1
  unfold plain1 at hk
  rw [if_neg h1, if_neg h2] at hk
  subst hq
  by_cases h3 : b = 67 ∨ b = 97
  · rw [if_pos h3] at hk
    rw [if_pos (by simpa using h3)]
    refine nz_i ?_
    simp only [add0, Nat.zero_add]
    refine hr.ldi (v := S.pl.x) (fun A => rfl) ?_
    refine hr.ldi (v := S.pl.y) (fun A => rfl) ?_
    rw [wrap64 (x := S.pl.x + m) (by omega) (by omega)]
    exact to_sp hr hk
  rw [if_neg h3] at hk
  rw [if_neg (by simpa using h3)]
  by_cases h4 : b = 68
  · rw [if_pos h4] at hk ⊢
    refine nz_i ?_
    simp only [add0, Nat.zero_add]
    refine hr.ldi (v := S.pl.x) (fun A => rfl) ?_
    refine hr.ldi (v := S.pl.y) (fun A => rfl) ?_
    rw [wrap64 (x := S.pl.x - m) (by omega) (by omega)]
    exact to_sp hr hk
  rw [if_neg h4] at hk ⊢
  by_cases h5 : b = 69
  · rw [if_pos h5] at hk ⊢
    refine rowsDown_sp hr fun h6 hs6 => nz_i ?_
    simp only [add0, Nat.zero_add]
    refine hs6.ldi (v := (rowsDownV S m).pl.y) (fun A => rfl) ?_
    exact to_sp hs6 hk
  rw [if_neg h5] at hk ⊢
  by_cases h6 : b = 70
  · rw [if_pos h6] at hk ⊢
    refine rowsUp_sp hr fun h6 hs6 => nz_i ?_
    simp only [add0, Nat.zero_add]
    refine hs6.ldi (v := (rowsUpV S m).pl.y) (fun A => rfl) ?_
    exact to_sp hs6 hk
  rw [if_neg h6] at hk ⊢
  by_cases h7 : b = 71
  · rw [if_pos h7]
    exact plain_j2 ht hs hl o hn m0 m1 (by simp [h7]) hk
  · rw [if_neg h7]
    exact plain_j2 ht hs hl o hn m0 m1 (by simp [h7]) hk
theorem plain_j0 (ht : Tabs h0.h) (hs : RepX h0 h s S ob) (hl : SlO nf 1 3 a n c l ob) (o : Ok S) (hn : n ≤ 1000) (m0 : 1 ≤ m) (m1 : m ≤ 100000) (h1 : ¬ b = 65) (hq : q = decide (b = 66 ∨ b = 101)) (hk : ∀ h1, Rep h0 h1 s (plain1 S b l m) → K h1) :
    vt_Screen_plain_j0 K (some ⟨s, 0, none⟩) b a n c m b q h := by
  have hr := hs.rep
  have hk0 := hk
  unfold vt_Screen_plain_j0
  unfold plain1 at hk
  rw [if_neg h1] at hk
  subst hq
  by_cases h3 : b = 66 ∨ b = 101
  · rw [if_pos h3] at hk
    rw [if_pos (by simpa using h3)]
    exact rowsDown_sp hr hk
  rw [if_neg (by simpa using h3)]
  by_cases h4 : b = 67
  · rw [if_pos h4]
    exact plain_j1 ht hs hl o hn m0 m1 h1 h3 (by simp [h4]) hk0
  · rw [if_neg h4]
    exact plain_j1 ht hs hl o hn m0 m1 h1 h3 (by simp [h4]) hk0
theorem plain_sp (ht : Tabs h0.h) (hs : RepX h0 h s S ob) (hl : SlO nf 1 3 a n c l ob) (o : Ok S) (hn : n ≤ 1000) (hm : atV l 0 1 ≤ 100000) (hk : ∀ h1, Rep h0 h1 s (plainV S b l) → K h1) : vt_Screen_plain (some ⟨s, 0, none⟩) b a n c K h := by
  have hsX : RepX h0 h s S (ob ++ []) := by rw [List.append_nil]; exact hs
  have hr := hs.rep
  unfold vt_Screen_plain
  unfold plainV at hk
  refine at_sp (hsX.ints hl) 0 ?_
  have m0 := imax1 (atV l 0 1)
  have m1 : imax 1 (atV l 0 1) ≤ 100000 := by unfold imax; split <;> omega
  generalize imax 1 (atV l 0 1) = m at *
  have hk0 := hk
  unfold plain1 at hk
  by_cases h1 : b = 65
  · rw [if_pos h1] at hk ⊢
    exact rowsUp_sp hr hk
  rw [if_neg h1]
  by_cases h2 : b = 66
  · rw [if_pos h2]
    exact plain_j0 ht hs hl o hn m0 m1 h1 (by simp [h2]) hk0
  · rw [if_neg h2]
    exact plain_j0 ht hs hl o hn m0 m1 h1 (by simp [h2]) hk0
end
end Go.Proofs.YthjdnhhifjpidaaDoor.M
