import Derived.Test.YthjdnhhifjpidaaDoorU13
set_option linter.unusedVariables false
set_option linter.unusedSimpArgs false
set_option maxRecDepth 100000
namespace Go.Proofs.YthjdnhhifjpidaaDoor.M
open Go Go.Hp

/-! ### Places are put in, taken out -/
def openR (r : List Gl) (x w n : Int) (g : Gl) : List Gl :=
  fillV (copyV (cutV (cutV r x) (w - n)) (x + n).toNat x.toNat (w - x - n).toNat) g n.toNat x (x + n)
def shutR (r : List Gl) (x w n : Int) (g : Gl) : List Gl :=
  fillV (copyV (cutV (cutV r x) (x + n)) x.toNat (x + n).toNat (w - x - n).toNat) g n.toNat (w - n) w
theorem openR_len (r : List Gl) (x w n : Int) (g : Gl) (hl : (r.length : Int) = w) (x0 : 0 ≤ x) (n0 : 0 ≤ n) (h : x + n ≤ w) : (openR r x w n g).length = r.length := by
  unfold openR
  rw [fillV_len, copyV_len _ _ _ _ (by rw [cutV_len, cutV_len]; omega) (by rw [cutV_len, cutV_len]; omega), cutV_len, cutV_len]
theorem shutR_len (r : List Gl) (x w n : Int) (g : Gl) (hl : (r.length : Int) = w) (x0 : 0 ≤ x) (n0 : 0 ≤ n) (h : x + n ≤ w) : (shutR r x w n g).length = r.length := by
  unfold shutR
  rw [fillV_len, copyV_len _ _ _ _ (by rw [cutV_len, cutV_len]; omega) (by rw [cutV_len, cutV_len]; omega), cutV_len, cutV_len]
def Scr.rowAt (S : Scr) : List Gl := S.sh.getD S.pl.y.toNat []
/-- The cursor's row is another. -/
def Scr.setRow (S : Scr) (g : List Gl) : Scr := S.setSh (S.sh.set S.pl.y.toNat g)
theorem Ok.setRow {S : Scr} (o : Ok S) {g : List Gl} (hg : (g.length : Int) = S.w) : Ok (S.setRow g) := by
  have hs := o.d.sh
  refine ⟨o.d.setSh ?_ fun x hx => ?_, o.c.setSh _⟩
  · rw [List.length_set]; exact hs.1
  · rcases List.mem_or_eq_of_mem_set hx with h | h
    · exact hs.2 x h
    · rw [h]; exact hg
theorem Ok.rowAt {S : Scr} (o : Ok S) : (S.rowAt.length : Int) = S.w := by
  have hs := o.d.sh
  have := o.c.p.y0
  have := o.c.p.y1
  refine hs.2 _ ?_
  unfold Scr.rowAt
  rw [List.getD_eq_getElem?_getD, List.getElem?_eq_getElem (by omega)]
  exact List.getElem_mem _
theorem Ok.row_sp {h0 : Base} {h : Heap} {s : Nat} {S : Scr} {K : Option Addr → Nat → Nat → Heap → Prop} (ok : Ok S) (hs : Rep h0 h s S)
    (hk : ∀ (A : Refs) (a : Option Addr) (n c : Nat) (o l : Blks), (n : Int) = S.w → n ≤ c → Own h0 h ([(s, scrC S A, 69)] ++ (o ++ l)) → SlO gf 5 43 a n c S.rowAt o → (∀ h' o' g', Own h0 h' ([(s, scrC S A, 69)] ++ (o' ++ l)) → SlO gf 5 43 a n c g' o' → Rep h0 h' s (S.setRow g')) → K a n c h) :
    vt_Screen_row (some ⟨s, 0, none⟩) K h := by
  have hsh := ok.d.sh
  have hy := ok.c.p
  have := hy.y0
  have := hy.y1
  have hw0 := ok.d.w0
  have hr := ok.rowAt
  refine M.row_sp hs hy.y0 (by omega) fun A a n c o l ho h1 h2 => ?_
  have hn := h1.1
  have hcn : n ≤ c := by
    obtain ⟨_, ⟨_, _, _, e4⟩ | ⟨_, _, _, _, _, _, _, hle⟩⟩ := h1
    · unfold Scr.rowAt at hr
      rw [e4] at hr
      simp at hr
      omega
    · exact hle
  have e : (S.sh.getD S.pl.y.toNat []) = S.rowAt := rfl
  rw [e] at h1 hn
  exact hk A a n c o l (by omega) hcn ho h1 h2
theorem open_l0 {h0 : Base} {s : Nat} {S : Scr} {A : Refs} {a : Option Addr} {n c : Nat} {l : Blks} {nn : Int} {K0 : Heap → Prop} (ok : Ok S) (hn0 : 0 ≤ nn) (hnn : S.pl.x + nn ≤ n) (hn : (n : Int) = S.w) :
    ∀ (f : Nat) (i : Int) (h : Heap) (r : List Gl) (o : Blks), SlO gf 5 43 a n c r o → Own h0 h ([(s, scrC S A, 69)] ++ (o ++ l)) → 0 ≤ i → (S.pl.x + nn - i).toNat = f →
      (∀ h' o', Own h0 h' ([(s, scrC S A, 69)] ++ (o' ++ l)) → SlO gf 5 43 a n c (fillV r (erasedG S) f i (S.pl.x + nn)) o' → K0 h') → vt_Screen_open_l0 K0 (f + 1) ⟨s, 0, none⟩ nn a n c i h := by
  have hw0 := ok.d.w0
  have hw1 := ok.d.w1
  have hx0 := ok.c.p.x0
  have hx1 := ok.c.p.x1
  intro f
  induction f with
  | zero =>
    intro i h r o hs ho hi hf hk
    have ho' : Own h0 h ((s, scrC S A, 69) :: (o ++ l)) := ho
    unfold vt_Screen_open_l0
    simp only [add0, Nat.zero_add]
    refine ldI0 ho' rfl ?_
    show if i < IntKind.wrap .i64 (S.pl.x + nn) then _ else _
    rw [if_neg (by rw [IntKind.wrap_i64]; omega)]
    exact hk h o ho hs
  | succ f ih =>
    intro i h r o hs ho hi hf hk
    have ho' : Own h0 h ((s, scrC S A, 69) :: (o ++ l)) := ho
    unfold fillV at hk
    rw [if_pos (by omega)] at hk
    unfold vt_Screen_open_l0
    simp only [add0, Nat.zero_add]
    refine ldI0 ho' rfl ?_
    show if i < IntKind.wrap .i64 (S.pl.x + nn) then _ else _
    rw [if_pos (by rw [IntKind.wrap_i64]; omega)]
    refine erased_o ho' rfl fun h1 he1 => ?_
    have ho1 := ho.gap he1
    obtain ⟨p, hp, _⟩ := hs.get gf_len ho1 i.toNat gl0 (by omega)
    rw [hp]
    refine nz_i ⟨hi, by omega, ?_⟩
    refine SlO.set gf_len hs ho1 i.toNat (erasedG S) (by omega) hp fun h2 o2 ho2 hs2 => ?_
    rw [wrap64 (by omega) (by omega), ← hp]
    exact ih (i + 1) h2 _ o2 hs2 ho2 (by omega) (by omega) hk
def openV (S : Scr) (n : Int) : Scr := S.setRow (openR S.rowAt S.pl.x S.w (imin n (S.w - S.pl.x)) (erasedG S))
theorem imin_ge {a b c : Int} (h1 : c ≤ a) (h2 : c ≤ b) : c ≤ imin a b := by unfold imin; split <;> assumption
theorem Ok.open {S : Scr} (o : Ok S) {n : Int} (hn : 0 ≤ n) : Ok (openV S n) := by
  have hr := o.rowAt
  have h1 := o.c.p.x1
  have h2 := imin_le2 n (S.w - S.pl.x)
  have h3 : 0 ≤ imin n (S.w - S.pl.x) := imin_ge hn (by omega)
  refine o.setRow ?_
  rw [openR_len _ _ _ _ _ hr o.c.p.x0 h3 (by omega)]
  exact hr
theorem open_sp {h0 : Base} {h : Heap} {s : Nat} {S : Scr} {n : Int} {K : Heap → Prop} (hs : Rep h0 h s S) (ok : Ok S) (hn : 0 ≤ n) (hk : ∀ h1, Rep h0 h1 s (openV S n) → K h1) : vt_Screen_open (some ⟨s, 0, none⟩) n K h := by
  have hw0 := ok.d.w0
  have hw1 := ok.d.w1
  have hx0 := ok.c.p.x0
  have hx1 := ok.c.p.x1
  have hr := ok.rowAt
  have g2 := imin_le2 n (S.w - S.pl.x)
  have g3 : 0 ≤ imin n (S.w - S.pl.x) := imin_ge hn (by omega)
  unfold vt_Screen_open
  refine ok.row_sp hs fun A a nn c o l hl hcn ho hsl hback => ?_
  have ho0 : Own h0 h ((s, scrC S A, 69) :: (o ++ l)) := ho
  refine nz_i ?_
  simp only [add0, Nat.zero_add]
  refine ldI0 ho0 rfl ?_
  refine ldI0 ho0 rfl ?_
  refine ldI0 ho0 rfl ?_
  rw [wrap64 (x := S.w - S.pl.x) (by omega) (by omega)]
  unfold openV at hk
  generalize imin n (S.w - S.pl.x) = m at *
  refine cut_sp hsl ho (by omega) fun h1 o1 ho1 hs1 => ?_
  have ho1' : Own h0 h1 ((s, scrC S A, 69) :: (o1 ++ l)) := ho1
  refine ldI0 ho1' rfl ?_
  show vt_row_cut a nn c (IntKind.wrap .i64 (S.w - m)) _ h1
  rw [wrap64 (x := S.w - m) (by omega) (by omega)]
  refine cut_sp hs1 ho1 (by omega) fun h2 o2 ho2 hs2 => ?_
  have ho2' : Own h0 h2 ((s, scrC S A, 69) :: (o2 ++ l)) := ho2
  refine ldI0 ho2' rfl ?_
  show 0 ≤ (IntKind.wrap .i64 (S.pl.x + m)) ∧ (IntKind.wrap .i64 (S.pl.x + m)) ≤ (nn : Int) ∧ _
  rw [wrap64 (x := S.pl.x + m) (by omega) (by omega)]
  refine ⟨by omega, by omega, ?_⟩
  refine ldI0 ho2' rfl ?_
  refine ldI0 ho2' rfl ?_
  show 0 ≤ (IntKind.wrap .i64 (S.w - m)) ∧ _
  rw [wrap64 (x := S.w - m) (by omega) (by omega)]
  refine ⟨by omega, by omega, hx0, by omega, ?_⟩
  refine SlO.copy gf_len gf_one hs2 ho2 (S.pl.x + m).toNat (nn - (S.pl.x + m).toNat) S.pl.x.toNat ((S.w - m).toNat - S.pl.x.toNat) (by omega) (by omega) fun h3 o3 ho3 hs3 => ?_
  have hmin : Nat.min ((S.w - m).toNat - S.pl.x.toNat) (nn - (S.pl.x + m).toNat) = (S.w - S.pl.x - m).toNat := by
    rw [show (S.w - m).toNat - S.pl.x.toNat = (S.w - S.pl.x - m).toNat by omega, show nn - (S.pl.x + m).toNat = (S.w - S.pl.x - m).toNat by omega]
    exact Nat.min_self _
  rw [hmin] at hs3
  have ho3' : Own h0 h3 ((s, scrC S A, 69) :: (o3 ++ l)) := ho3
  refine ldI0 ho3' rfl ?_
  refine ⟨m.toNat + 1, open_l0 ok g3 (by omega) hl m.toNat S.pl.x h3 _ o3 hs3 ho3 hx0 (by omega) fun h4 o4 ho4 hs4 => hk h4 (hback h4 o4 _ ho4 hs4)⟩
theorem shut_l0 {h0 : Base} {s : Nat} {S : Scr} {A : Refs} {a : Option Addr} {n c : Nat} {l : Blks} {K0 : Heap → Prop} (ok : Ok S) (hn : (n : Int) = S.w) :
    ∀ (f : Nat) (i : Int) (h : Heap) (r : List Gl) (o : Blks), SlO gf 5 43 a n c r o → Own h0 h ([(s, scrC S A, 69)] ++ (o ++ l)) → 0 ≤ i → (S.w - i).toNat = f →
      (∀ h' o', Own h0 h' ([(s, scrC S A, 69)] ++ (o' ++ l)) → SlO gf 5 43 a n c (fillV r (erasedG S) f i S.w) o' → K0 h') → vt_Screen_shut_l0 K0 (f + 1) ⟨s, 0, none⟩ a n c i h := by
  have hw0 := ok.d.w0
  have hw1 := ok.d.w1
  intro f
  induction f with
  | zero =>
    intro i h r o hs ho hi hf hk
    have ho' : Own h0 h ((s, scrC S A, 69) :: (o ++ l)) := ho
    unfold vt_Screen_shut_l0
    refine ldI0 ho' rfl ?_
    show if i < S.w then _ else _
    rw [if_neg (by omega)]
    exact hk h o ho hs
  | succ f ih =>
    intro i h r o hs ho hi hf hk
    have ho' : Own h0 h ((s, scrC S A, 69) :: (o ++ l)) := ho
    unfold fillV at hk
    rw [if_pos (by omega)] at hk
    unfold vt_Screen_shut_l0
    refine ldI0 ho' rfl ?_
    show if i < S.w then _ else _
    rw [if_pos (by omega)]
    refine erased_o ho' rfl fun h1 he1 => ?_
    have ho1 := ho.gap he1
    obtain ⟨p, hp, _⟩ := hs.get gf_len ho1 i.toNat gl0 (by omega)
    rw [hp]
    refine nz_i ⟨hi, by omega, ?_⟩
    refine SlO.set gf_len hs ho1 i.toNat (erasedG S) (by omega) hp fun h2 o2 ho2 hs2 => ?_
    rw [wrap64 (by omega) (by omega), ← hp]
    exact ih (i + 1) h2 _ o2 hs2 ho2 (by omega) (by omega) hk
def shutV (S : Scr) (n : Int) : Scr := S.setRow (shutR S.rowAt S.pl.x S.w (imin n (S.w - S.pl.x)) (erasedG S))
theorem Ok.shut {S : Scr} (o : Ok S) {n : Int} (hn : 0 ≤ n) : Ok (shutV S n) := by
  have hr := o.rowAt
  have h1 := o.c.p.x1
  have h2 := imin_le2 n (S.w - S.pl.x)
  have h3 : 0 ≤ imin n (S.w - S.pl.x) := imin_ge hn (by omega)
  refine o.setRow ?_
  rw [shutR_len _ _ _ _ _ hr o.c.p.x0 h3 (by omega)]
  exact hr
theorem shut_sp {h0 : Base} {h : Heap} {s : Nat} {S : Scr} {n : Int} {K : Heap → Prop} (hs : Rep h0 h s S) (ok : Ok S) (hn : 0 ≤ n) (hk : ∀ h1, Rep h0 h1 s (shutV S n) → K h1) : vt_Screen_shut (some ⟨s, 0, none⟩) n K h := by
  have hw0 := ok.d.w0
  have hw1 := ok.d.w1
  have hx0 := ok.c.p.x0
  have hx1 := ok.c.p.x1
  have hr := ok.rowAt
  have g2 := imin_le2 n (S.w - S.pl.x)
  have g3 : 0 ≤ imin n (S.w - S.pl.x) := imin_ge hn (by omega)
  unfold vt_Screen_shut
  refine ok.row_sp hs fun A a nn c o l hl hcn ho hsl hback => ?_
  have ho0 : Own h0 h ((s, scrC S A, 69) :: (o ++ l)) := ho
  refine nz_i ?_
  simp only [add0, Nat.zero_add]
  refine ldI0 ho0 rfl ?_
  refine ldI0 ho0 rfl ?_
  refine ldI0 ho0 rfl ?_
  rw [wrap64 (x := S.w - S.pl.x) (by omega) (by omega)]
  unfold shutV at hk
  generalize imin n (S.w - S.pl.x) = m at *
  refine cut_sp hsl ho (by omega) fun h1 o1 ho1 hs1 => ?_
  have ho1' : Own h0 h1 ((s, scrC S A, 69) :: (o1 ++ l)) := ho1
  refine ldI0 ho1' rfl ?_
  show vt_row_cut a nn c (IntKind.wrap .i64 (S.pl.x + m)) _ h1
  rw [wrap64 (x := S.pl.x + m) (by omega) (by omega)]
  refine cut_sp hs1 ho1 (by omega) fun h2 o2 ho2 hs2 => ?_
  have ho2' : Own h0 h2 ((s, scrC S A, 69) :: (o2 ++ l)) := ho2
  refine ldI0 ho2' rfl ?_
  refine ⟨hx0, by omega, ?_⟩
  refine ldI0 ho2' rfl ?_
  show 0 ≤ (IntKind.wrap .i64 (S.pl.x + m)) ∧ (IntKind.wrap .i64 (S.pl.x + m)) ≤ (nn : Int) ∧ _
  rw [wrap64 (x := S.pl.x + m) (by omega) (by omega)]
  refine ⟨by omega, by omega, ?_⟩
  refine SlO.copy gf_len gf_one hs2 ho2 S.pl.x.toNat (nn - S.pl.x.toNat) (S.pl.x + m).toNat (nn - (S.pl.x + m).toNat) (by omega) (by omega) fun h3 o3 ho3 hs3 => ?_
  have hmin : Nat.min (nn - (S.pl.x + m).toNat) (nn - S.pl.x.toNat) = (S.w - S.pl.x - m).toNat := by
    rw [show nn - (S.pl.x + m).toNat = (S.w - S.pl.x - m).toNat by omega]
    exact Nat.min_eq_left (by omega)
  rw [hmin] at hs3
  have ho3' : Own h0 h3 ((s, scrC S A, 69) :: (o3 ++ l)) := ho3
  refine ldI0 ho3' rfl ?_
  show ∃ k57, vt_Screen_shut_l0 _ k57 _ a nn c (IntKind.wrap .i64 (S.w - m)) h3
  rw [wrap64 (x := S.w - m) (by omega) (by omega)]
  refine ⟨m.toNat + 1, shut_l0 ok hl m.toNat (S.w - m) h3 _ o3 hs3 ho3 (by omega) (by omega) fun h4 o4 ho4 hs4 => hk h4 (hback h4 o4 _ ho4 hs4)⟩
/-! ### Rows are put in, taken out -/
def lines1V (S : Scr) (b n : Int) : Scr :=
  if S.pl.y < S.top then S else if S.bottom < S.pl.y then S else
  if b = 76 then toV (downV S S.pl.y S.bottom n) 0 (downV S S.pl.y S.bottom n).pl.y else toV (upV S S.pl.y S.bottom n false) 0 (upV S S.pl.y S.bottom n false).pl.y
theorem Ok.lines1 {S : Scr} (o : Ok S) (b n : Int) : Ok (lines1V S b n) := by
  have h1 := o.c.p.y0
  have h2 := o.c.bh
  unfold lines1V
  split
  · exact o
  · split
    · exact o
    · split
      · exact (o.down h1 (by omega) h2).to _ _
      · exact (o.up h1 (by omega) h2).to _ _
theorem lines1_sp {h0 : Base} {h : Heap} {s : Nat} {S : Scr} {b n : Int} {K : Heap → Prop} (hs : Rep h0 h s S) (o : Ok S) (hk : ∀ h1, Rep h0 h1 s (lines1V S b n) → K h1) : vt_Screen_lines1 (some ⟨s, 0, none⟩) b n K h := by
  have g1 := o.c.p.y0
  have g2 := o.c.bh
  have hs0 := hs
  obtain ⟨A, oM, oO, oP, oT, oG, oK, oL, ho, hp⟩ := hs
  unfold vt_Screen_lines1
  unfold lines1V at hk
  refine nz_i ?_
  simp only [add0, Nat.zero_add]
  repeat (first | ((with_reducible apply newB_o); (with_reducible assumption); intro _ _ _) | ((with_reducible apply st0); (with_reducible assumption); rfl; intro _ _) | ((with_reducible apply ldI0); (with_reducible assumption); rfl) | ((with_reducible apply ldB0); (with_reducible assumption); rfl) | ((with_reducible apply ldS0); (with_reducible assumption); rfl) | (with_reducible apply nz_i))
  by_cases h1 : S.pl.y < S.top
  · rw [if_pos h1] at hk ⊢
    exact hk h hs0
  rw [if_neg h1] at hk ⊢
  repeat (first | ((with_reducible apply newB_o); (with_reducible assumption); intro _ _ _) | ((with_reducible apply st0); (with_reducible assumption); rfl; intro _ _) | ((with_reducible apply ldI0); (with_reducible assumption); rfl) | ((with_reducible apply ldB0); (with_reducible assumption); rfl) | ((with_reducible apply ldS0); (with_reducible assumption); rfl) | (with_reducible apply nz_i))
  by_cases h2 : S.bottom < S.pl.y
  · rw [if_pos h2] at hk ⊢
    exact hk h hs0
  rw [if_neg h2] at hk ⊢
  by_cases h3 : b = 76
  · rw [if_pos h3] at hk ⊢
    repeat (first | ((with_reducible apply newB_o); (with_reducible assumption); intro _ _ _) | ((with_reducible apply st0); (with_reducible assumption); rfl; intro _ _) | ((with_reducible apply ldI0); (with_reducible assumption); rfl) | ((with_reducible apply ldB0); (with_reducible assumption); rfl) | ((with_reducible apply ldS0); (with_reducible assumption); rfl) | (with_reducible apply nz_i))
    refine down_sp hs0 o.d g1 (by omega) g2 fun h4 hs4 => ?_
    have hs4' := hs4
    obtain ⟨A', oM', oO', oP', oT', oG', oK', oL', ho', hp'⟩ := hs4
    refine ldI0 ho' rfl ?_
    exact to_sp hs4' hk
  · rw [if_neg h3] at hk ⊢
    repeat (first | ((with_reducible apply newB_o); (with_reducible assumption); intro _ _ _) | ((with_reducible apply st0); (with_reducible assumption); rfl; intro _ _) | ((with_reducible apply ldI0); (with_reducible assumption); rfl) | ((with_reducible apply ldB0); (with_reducible assumption); rfl) | ((with_reducible apply ldS0); (with_reducible assumption); rfl) | (with_reducible apply nz_i))
    refine up_sp hs0 o.d g1 (by omega) g2 fun h4 hs4 => ?_
    have hs4' := hs4
    obtain ⟨A', oM', oO', oP', oT', oG', oK', oL', ho', hp'⟩ := hs4
    refine ldI0 ho' rfl ?_
    exact to_sp hs4' hk
def placesV (S : Scr) (b n : Int) : Scr :=
  if b = 64 then unwait (openV S n) else if b = 80 then unwait (shutV S n) else if b = 88 then unwait (S.setRow (eraseV S.rowAt S.pl.x (imin S.w (S.pl.x + n)) (erasedG S))) else unwait S
theorem eraseV_len (r : List Gl) (i to : Int) (g : Gl) : (eraseV r i to g).length = r.length := by
  unfold eraseV
  rw [fillV_len, cutV_len, cutV_len]
theorem Ok.places {S : Scr} (o : Ok S) (b : Int) {n : Int} (hn : 0 ≤ n) : Ok (placesV S b n) := by
  unfold placesV
  split
  · exact (o.open hn).unwait
  · split
    · exact (o.shut hn).unwait
    · split
      · refine (o.setRow ?_).unwait
        rw [eraseV_len]
        exact o.rowAt
      · exact o.unwait
theorem places_sp {h0 : Base} {h : Heap} {s : Nat} {S : Scr} {b n : Int} {K : Heap → Prop} (hs : Rep h0 h s S) (o : Ok S) (hn : 0 ≤ n) (hn1 : n ≤ 100000) (hk : ∀ h1, Rep h0 h1 s (placesV S b n) → K h1) : vt_Screen_places (some ⟨s, 0, none⟩) b n K h := by
  have hw0 := o.d.w0
  have hw1 := o.d.w1
  have hx0 := o.c.p.x0
  have hx1 := o.c.p.x1
  unfold vt_Screen_places
  unfold placesV at hk
  by_cases h1 : b = 64
  · rw [if_pos h1] at hk ⊢
    refine open_sp hs o hn fun h2 hs2 => nz_i ?_
    simp only [add0, Nat.zero_add]
    exact unwait_st hs2 hk
  rw [if_neg h1] at hk ⊢
  by_cases h2 : b = 80
  · rw [if_pos h2] at hk ⊢
    refine shut_sp hs o hn fun h2 hs2 => nz_i ?_
    simp only [add0, Nat.zero_add]
    exact unwait_st hs2 hk
  rw [if_neg h2] at hk ⊢
  by_cases h3 : b = 88
  · rw [if_pos h3] at hk ⊢
    have hs0 := hs
    obtain ⟨A, oM, oO, oP, oT, oG, oK, oL, ho, hp⟩ := hs
    refine nz_i ?_
    simp only [add0, Nat.zero_add]
    repeat (first | ((with_reducible apply newB_o); (with_reducible assumption); intro _ _ _) | ((with_reducible apply st0); (with_reducible assumption); rfl; intro _ _) | ((with_reducible apply ldI0); (with_reducible assumption); rfl) | ((with_reducible apply ldB0); (with_reducible assumption); rfl) | ((with_reducible apply ldS0); (with_reducible assumption); rfl) | (with_reducible apply nz_i))
    refine o.row_sp hs0 fun A a nn c o l hl hcn ho hsl hback => ?_
    have ho0 : Own h0 h ((s, scrC S A, 69) :: (o ++ l)) := ho
    refine ⟨⟨ho0.get0.cell 9 rfl, ho0.get0.cell 0 rfl, ho0.get0.cell 9 rfl⟩, ?_⟩
    refine erased_o ho0 rfl fun h1 he1 => ?_
    have ho1 := ho0.gap he1
    refine ⟨⟨ho1.get0.cell 9 rfl, ho1.get0.cell 0 rfl, ho1.get0.cell 9 rfl⟩, ?_⟩
    rw [wrap64 (x := S.pl.x + n) (by omega) (by omega)]
    have hm := imin_le1 S.w (S.pl.x + n)
    refine erase_sp (g := erasedG S) (pre := [(s, scrC S A, 69)]) hsl ho1 hx0 (by omega) (by omega) fun h3 o3 ho3 hs3 => ?_
    exact unwait_st (hback h3 o3 _ ho3 hs3) hk
  · rw [if_neg h3] at hk ⊢
    refine nz_i ?_
    simp only [add0, Nat.zero_add]
    exact unwait_st hs hk
end Go.Proofs.YthjdnhhifjpidaaDoor.M
