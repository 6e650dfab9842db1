import Derived.Test.YthjdnhhifjpidaaDoorU14
set_option linter.unusedVariables false
set_option linter.unusedSimpArgs false
set_option maxRecDepth 100000
namespace Go.Proofs.YthjdnhhifjpidaaDoor.M
open Go Go.Hp

/-! ### A letter is written -/
theorem setSh_pl (S : Scr) (R) : (S.setSh R).pl = S.pl ∧ (S.setSh R).w = S.w := by
  unfold Scr.setSh
  split <;> exact ⟨rfl, rfl⟩
theorem keepOne_pl (S : Scr) (t : Int) (k : Bool) : (keepOne S t k).pl = S.pl ∧ (keepOne S t k).w = S.w := by
  unfold keepOne
  split
  · split <;> exact ⟨rfl, rfl⟩
  · exact ⟨rfl, rfl⟩
theorem upL_pl (t b : Int) (k : Bool) : ∀ (n : Nat) (S : Scr), (upL t b k n S).pl = S.pl ∧ (upL t b k n S).w = S.w
  | 0, S => ⟨rfl, rfl⟩
  | n + 1, S => by
    have h1 := upL_pl t b k n (upOne (keepOne S t k) t b)
    have h2 := setSh_pl (keepOne S t k) (shiftUp (keepOne S t k).sh t.toNat b.toNat (emptyRow (keepOne S t k)))
    have h3 := keepOne_pl S t k
    exact ⟨h1.1.trans (h2.1.trans h3.1), h1.2.trans (h2.2.trans h3.2)⟩
theorem feedV_x (S : Scr) : (feedV S).pl.x = S.pl.x ∧ (feedV S).w = S.w := by
  unfold feedV
  split
  · have := upL_pl S.top S.bottom true (imin 1 (S.bottom - S.top + 1)).toNat S
    exact ⟨show (upL _ _ _ _ S).pl.x = S.pl.x by rw [this.1], this.2⟩
  · split <;> exact ⟨rfl, rfl⟩
theorem setX_st {h0 : Base} {h : Heap} {s : Nat} {S : Scr} {x : Int} {K : Heap → Prop} (hs : Rep h0 h s S) (hk : ∀ h1, Rep h0 h1 s (setX S x) → K h1) : stN ⟨s, 9, none⟩ [.int .i64 x] 0 h K := by
  obtain ⟨A, oM, oO, oP, oT, oG, oK, oL, ho, hp⟩ := hs
  repeat (first | ((with_reducible apply newB_o); (with_reducible assumption); intro _ _ _) | ((with_reducible apply st0); (with_reducible assumption); rfl; intro _ _) | ((with_reducible apply ldI0); (with_reducible assumption); rfl) | ((with_reducible apply ldB0); (with_reducible assumption); rfl) | ((with_reducible apply ldS0); (with_reducible assumption); rfl) | (with_reducible apply nz_i))
  exact hk _ ⟨A, oM, oO, oP, oT, oG, oK, oL, by assumption, hp.1, hp.2, hp.3, hp.4, hp.5, hp.6, hp.7⟩
def setLast (S : Scr) (c : Int) : Scr := { S with last := c }
theorem Ok.setLast {S : Scr} (o : Ok S) (c : Int) : Ok (setLast S c) :=
  ⟨⟨o.d.w0, o.d.w1, o.d.h0, o.d.h1, o.d.m0, o.d.m1, o.d.past, o.d.main, o.d.other⟩, ⟨o.c.p, o.c.t0, o.c.tb, o.c.bh, o.c.tabs, o.c.gath, o.c.ans, o.c.hv0, o.c.hv1, o.c.km, o.c.ko⟩⟩
def putR (r : List Gl) (x n : Int) (t : ByteArray) (f b m : Int) : List Gl :=
  if n = 2 then ((cutV (cutV r x) (x + n)).set x.toNat (t, n, f, b, m)).set (x + 1).toNat (⟨#[]⟩, 0, f, b, m) else (cutV (cutV r x) (x + n)).set x.toNat (t, n, f, b, m)
theorem putR_len (r : List Gl) (x n : Int) (t : ByteArray) (f b m : Int) : (putR r x n t f b m).length = r.length := by
  unfold putR
  split <;> simp [cutV_len]
def ahead (S : Scr) (n : Int) : Scr := if S.w ≤ S.pl.x + n then S.setPl { S.pl with x := S.w - 1, waiting := S.wrap } else S.setPl { S.pl with x := S.pl.x + n, waiting := false }
theorem Ok.ahead {S : Scr} (o : Ok S) {n : Int} (hn : 0 ≤ n) : Ok (ahead S n) := by
  have hw := o.d.w0
  have hx := o.c.p.x0
  unfold M.ahead
  split
  · exact Ok.setPl (p := { S.pl with x := S.w - 1, waiting := S.wrap }) o ⟨by show 0 ≤ S.w - 1; omega, by show S.w - 1 < S.w; omega, o.c.p.y0, o.c.p.y1⟩
  · exact Ok.setPl (p := { S.pl with x := S.pl.x + n, waiting := false }) o ⟨by show 0 ≤ S.pl.x + n; omega, by show S.pl.x + n < S.w; omega, o.c.p.y0, o.c.p.y1⟩
theorem write_j5 {h0 : Base} {h : Heap} {s : Nat} {S : Scr} {n : Int} {K : Heap → Prop} (hs : Rep h0 h s S) (o : Ok S) (n0 : 0 ≤ n) (n2 : n ≤ 2) (hk : ∀ h1, Rep h0 h1 s (ahead S n) → K h1) : vt_Screen_write_j5 K ⟨s, 0, none⟩ n h := by
  have hw0 := o.d.w0
  have hw1 := o.d.w1
  have hx0 := o.c.p.x0
  have hx1 := o.c.p.x1
  obtain ⟨A, oM, oO, oP, oT, oG, oK, oL, ho, hp⟩ := hs
  unfold vt_Screen_write_j5
  unfold ahead at hk
  simp only [add0, Nat.zero_add]
  refine st0 ho rfl fun h1 ho1 => ?_
  refine ldI0 ho1 rfl ?_
  show stN _ [Value.int IntKind.i64 (IntKind.wrap .i64 (S.pl.x + n))] 0 h1 _
  rw [wrap64 (x := S.pl.x + n) (by omega) (by omega)]
  refine st0 ho1 rfl fun h2 ho2 => ?_
  have ho2 := own_cs (c' := scrC (S.setPl { S.pl with x := S.pl.x + n, waiting := false }) A) ho2 (by kernel_rfl)
  refine ldI0 ho2 rfl ?_
  refine ldI0 ho2 rfl ?_
  show if S.w ≤ S.pl.x + n then _ else _
  by_cases hc : S.w ≤ S.pl.x + n
  · rw [if_pos hc] at hk ⊢
    refine ldI0 ho2 rfl ?_
    show stN _ [Value.int IntKind.i64 (IntKind.wrap .i64 (S.w - 1))] 0 h2 _
    rw [wrap64 (x := S.w - 1) (by omega) (by omega)]
    refine st0 ho2 rfl fun h3 ho3 => ?_
    have ho3 := own_cs (c' := scrC (S.setPl { S.pl with x := S.w - 1, waiting := false }) A) ho3 (by kernel_rfl)
    refine ldB0 ho3 rfl ?_
    refine st0 ho3 rfl fun h4 ho4 => ?_
    have ho4 := own_cs (c' := scrC (S.setPl { S.pl with x := S.w - 1, waiting := S.wrap }) A) ho4 (by kernel_rfl)
    exact hk h4 ⟨A, oM, oO, oP, oT, oG, oK, oL, by assumption, hp.1, hp.2, hp.3, hp.4, hp.5, hp.6, hp.7⟩
  · rw [if_neg hc] at hk ⊢
    exact hk h2 ⟨A, oM, oO, oP, oT, oG, oK, oL, by assumption, hp.1, hp.2, hp.3, hp.4, hp.5, hp.6, hp.7⟩
def putV (S : Scr) (c n : Int) : Scr := ahead (S.setRow (putR S.rowAt S.pl.x n (Utf8.encode c) S.pl.fore S.pl.back S.pl.marks)) n
theorem Ok.setPutR {S : Scr} (o : Ok S) (c n : Int) : Ok (S.setRow (putR S.rowAt S.pl.x n (Utf8.encode c) S.pl.fore S.pl.back S.pl.marks)) := o.setRow (by rw [putR_len]; exact o.rowAt)
theorem Ok.put {S : Scr} (o : Ok S) (c : Int) {n : Int} (hn : 0 ≤ n) : Ok (putV S c n) := (o.setPutR c n).ahead hn
theorem write_j4 {h0 : Base} {h : Heap} {s : Nat} {S : Scr} {c n : Int} {K : Heap → Prop} (hs : Rep h0 h s S) (ok : Ok S) (hn : n = 1 ∨ n = 2) (hx : n = 2 → S.pl.x + 1 < S.w) (hk : ∀ h1, Rep h0 h1 s (putV S c n) → K h1) : vt_Screen_write_j4 K ⟨s, 0, none⟩ c n h := by
  have hw0 := ok.d.w0
  have hw1 := ok.d.w1
  have hx0 := ok.c.p.x0
  have hx1 := ok.c.p.x1
  have okp := ok.setPutR c n
  unfold vt_Screen_write_j4
  unfold putV at hk
  unfold putR at hk okp
  refine ok.row_sp hs fun A a nn cc o l hl hcn ho hsl hback => ?_
  have ho0 : Own h0 h ((s, scrC S A, 69) :: (o ++ l)) := ho
  simp only [add0, Nat.zero_add]
  refine ldI0 ho0 rfl ?_
  refine cut_sp hsl ho (by omega) fun h1 o1 ho1 hs1 => ?_
  have ho1' : Own h0 h1 ((s, scrC S A, 69) :: (o1 ++ l)) := ho1
  refine ldI0 ho1' rfl ?_
  show vt_row_cut a nn cc (IntKind.wrap .i64 (S.pl.x + n)) _ h1
  rw [wrap64 (x := S.pl.x + n) (by omega) (by omega)]
  refine cut_sp hs1 ho1 (by omega) fun h2 o2 ho2 hs2 => ?_
  have ho2' : Own h0 h2 ((s, scrC S A, 69) :: (o2 ++ l)) := ho2
  refine ldI0 ho2' rfl ?_
  refine ldI0 ho2' rfl ?_
  refine ldI0 ho2' rfl ?_
  refine ldI0 ho2' rfl ?_
  obtain ⟨p, hp, _⟩ := hs2.get gf_len ho2 S.pl.x.toNat gl0 (by omega)
  rw [hp]
  refine nz_i ⟨hx0, by show S.pl.x < _; omega, ?_⟩
  refine SlO.set gf_len hs2 ho2 S.pl.x.toNat (Utf8.encode c, n, S.pl.fore, S.pl.back, S.pl.marks) (by omega) hp fun h3 o3 ho3 hs3 => ?_
  have ho3' : Own h0 h3 ((s, scrC S A, 69) :: (o3 ++ l)) := ho3
  by_cases h2n : n = 2
  · rw [if_pos h2n] at hk okp ⊢
    have := hx h2n
    refine ldI0 ho3' rfl ?_
    refine ldI0 ho3' rfl ?_
    refine ldI0 ho3' rfl ?_
    refine ldI0 ho3' rfl ?_
    show 0 ≤ (IntKind.wrap .i64 (S.pl.x + 1)) ∧ _
    rw [wrap64 (x := S.pl.x + 1) (by omega) (by omega)]
    refine ⟨by omega, by omega, ?_⟩
    refine SlO.set gf_len hs3 ho3 (S.pl.x + 1).toNat (⟨#[]⟩, 0, S.pl.fore, S.pl.back, S.pl.marks) (by omega) hp fun h4 o4 ho4 hs4 => ?_
    exact write_j5 (hback h4 o4 _ ho4 hs4) okp (by omega) (by omega) hk
  · rw [if_neg h2n] at hk okp ⊢
    exact write_j5 (hback h3 o3 _ ho3 hs3) okp (by omega) (by omega) hk
def write3 (S : Scr) (c n sent : Int) : Scr := if S.insert = true then putV (openV (setLast S sent) n) c n else putV (setLast S sent) c n
theorem Ok.write3 {S : Scr} (o : Ok S) (c : Int) {n : Int} (sent : Int) (hn : 0 ≤ n) : Ok (write3 S c n sent) := by
  unfold M.write3
  split
  · exact ((o.setLast sent).open hn).put c hn
  · exact (o.setLast sent).put c hn
theorem write_j3 {h0 : Base} {h : Heap} {s : Nat} {S : Scr} {c n sent : Int} {K : Heap → Prop} (hs : Rep h0 h s S) (ok : Ok S) (hn : n = 1 ∨ n = 2) (hx : n = 2 → S.pl.x + 1 < S.w) (hk : ∀ h1, Rep h0 h1 s (write3 S c n sent) → K h1) : vt_Screen_write_j3 K ⟨s, 0, none⟩ c n sent h := by
  obtain ⟨A, oM, oO, oP, oT, oG, oK, oL, ho, hp⟩ := hs
  unfold vt_Screen_write_j3
  unfold write3 at hk
  simp only [add0, Nat.zero_add]
  refine st0 ho rfl fun h1 ho1 => ?_
  have ho1 := own_cs (c' := scrC (setLast S sent) A) ho1 (by kernel_rfl)
  have hs1 : Rep h0 h1 s (setLast S sent) := ⟨A, oM, oO, oP, oT, oG, oK, oL, by assumption, hp.1, hp.2, hp.3, hp.4, hp.5, hp.6, hp.7⟩
  refine ldB0 ho1 rfl ?_
  show if S.insert = true then _ else _
  by_cases hc : S.insert = true
  · rw [if_pos hc] at hk ⊢
    refine open_sp hs1 (ok.setLast sent) (by omega) fun h2 hs2 => ?_
    have hq := setSh_pl (setLast S sent) ((setLast S sent).sh.set (setLast S sent).pl.y.toNat (openR (setLast S sent).rowAt (setLast S sent).pl.x (setLast S sent).w (imin n ((setLast S sent).w - (setLast S sent).pl.x)) (erasedG (setLast S sent))))
    refine write_j4 hs2 ((ok.setLast sent).open (by omega)) hn (fun h => ?_) hk
    have h3 := hx h
    show ((setLast S sent).setSh _).pl.x + 1 < ((setLast S sent).setSh _).w
    rw [hq.1, hq.2]
    exact h3
  · rw [if_neg hc] at hk ⊢
    exact write_j4 hs1 (ok.setLast sent) hn hx hk
def write2 (S : Scr) (c n sent : Int) : Scr :=
  if n = 2 then if S.pl.x = S.w - 1 then if S.wrap = false then S else if S.w = 1 then S else write3 (feedV (setX S 0)) c n sent else write3 S c n sent else write3 S c n sent
theorem Ok.zeroX {S : Scr} (o : Ok S) : Ok (M.setX S 0) := o.setX (Int.le_refl _) (by have := o.d.w0; omega)
theorem Ok.write2 {S : Scr} (o : Ok S) (c : Int) {n : Int} (sent : Int) (hn : 0 ≤ n) : Ok (write2 S c n sent) := by
  unfold M.write2
  split
  · split
    · split
      · exact o
      · split
        · exact o
        · exact o.zeroX.feed.write3 c sent hn
    · exact o.write3 c sent hn
  · exact o.write3 c sent hn
theorem write_j2 {h0 : Base} {h : Heap} {s : Nat} {S : Scr} {c n sent : Int} {K : Heap → Prop} (hs : Rep h0 h s S) (ok : Ok S) (hn : n = 1 ∨ n = 2) (hk : ∀ h1, Rep h0 h1 s (write2 S c n sent) → K h1) : vt_Screen_write_j2 K K ⟨s, 0, none⟩ c n sent h := by
  have hw0 := ok.d.w0
  have hw1 := ok.d.w1
  have hx0 := ok.c.p.x0
  have hx1 := ok.c.p.x1
  have hs0 := hs
  obtain ⟨A, oM, oO, oP, oT, oG, oK, oL, ho, hp⟩ := hs
  unfold vt_Screen_write_j2
  unfold write2 at hk
  simp only [add0, Nat.zero_add]
  by_cases h2 : n = 2
  · rw [if_pos h2] at hk ⊢
    refine ldI0 ho rfl ?_
    refine ldI0 ho rfl ?_
    show if S.pl.x = IntKind.wrap .i64 (S.w - 1) then _ else _
    rw [wrap64 (by omega) (by omega)]
    by_cases h3 : S.pl.x = S.w - 1
    · rw [if_pos h3] at hk ⊢
      refine ldB0 ho rfl ?_
      show if (!S.wrap) = true then _ else _
      by_cases h4 : S.wrap = false
      · rw [if_pos h4] at hk
        rw [if_pos (by rw [h4]; rfl)]
        exact hk h hs0
      rw [if_neg h4] at hk
      rw [if_neg (by simpa using h4)]
      refine ldI0 ho rfl ?_
      show if S.w = 1 then _ else _
      by_cases h5 : S.w = 1
      · rw [if_pos h5] at hk ⊢
        exact hk h hs0
      rw [if_neg h5] at hk ⊢
      refine setX_st hs0 fun h6 hs6 => feed_sp hs6 ok.zeroX fun h7 hs7 => ?_
      have hq := feedV_x (setX S 0)
      refine write_j3 hs7 ok.zeroX.feed hn (fun _ => ?_) hk
      rw [hq.1, hq.2]
      show (0 : Int) + 1 < S.w
      omega
    · rw [if_neg h3] at hk ⊢
      exact write_j3 hs0 ok hn (fun _ => by omega) hk
  · rw [if_neg h2] at hk ⊢
    exact write_j3 hs0 ok hn (fun h => absurd h h2) hk
def write1 (S : Scr) (c n sent : Int) : Scr := if S.pl.waiting = true then if S.wrap = true then write2 (feedV (setX S 0)) c n sent else write2 S c n sent else write2 S c n sent
theorem Ok.write1 {S : Scr} (o : Ok S) (c : Int) {n : Int} (sent : Int) (hn : 0 ≤ n) : Ok (write1 S c n sent) := by
  unfold M.write1
  split
  · split
    · exact o.zeroX.feed.write2 c sent hn
    · exact o.write2 c sent hn
  · exact o.write2 c sent hn
theorem write_j1 {h0 : Base} {h : Heap} {s : Nat} {S : Scr} {c n sent : Int} {K : Heap → Prop} (hs : Rep h0 h s S) (ok : Ok S) (hn : n = 1 ∨ n = 2) (hk : ∀ h1, Rep h0 h1 s (write1 S c n sent) → K h1) : vt_Screen_write_j1 K K ⟨s, 0, none⟩ c n sent h := by
  have hs0 := hs
  obtain ⟨A, oM, oO, oP, oT, oG, oK, oL, ho, hp⟩ := hs
  unfold vt_Screen_write_j1
  unfold write1 at hk
  simp only [add0, Nat.zero_add]
  refine ldB0 ho rfl ?_
  show if S.pl.waiting = true then _ else _
  by_cases h2 : S.pl.waiting = true
  · rw [if_pos h2] at hk ⊢
    refine ldB0 ho rfl ?_
    show if S.wrap = true then _ else _
    by_cases h3 : S.wrap = true
    · rw [if_pos h3] at hk ⊢
      exact setX_st hs0 fun h6 hs6 => feed_sp hs6 ok.zeroX fun h7 hs7 => write_j2 hs7 ok.zeroX.feed hn hk
    · rw [if_neg h3] at hk ⊢
      exact write_j2 hs0 ok hn hk
  · rw [if_neg h2] at hk ⊢
    exact write_j2 hs0 ok hn hk
def writeV (S : Scr) (c : Int) : Scr :=
  if widthV c < 1 then S else
  if (if S.pl.second = true then S.pl.l1 else S.pl.l0) = true then write1 S (vt_drawn c) (widthV c) c else write1 S c (widthV c) c
theorem Ok.write {S : Scr} (o : Ok S) (c : Int) : Ok (writeV S c) := by
  unfold writeV
  by_cases h : widthV c < 1
  · rw [if_pos h]; exact o
  rw [if_neg h]
  generalize (if S.pl.second = true then S.pl.l1 else S.pl.l0) = b
  by_cases hb : b = true
  · rw [if_pos hb]; exact o.write1 _ _ (by omega)
  · rw [if_neg hb]; exact o.write1 _ _ (by omega)
theorem widthV_12 {c : Int} (h : ¬ widthV c < 1) : widthV c = 1 ∨ widthV c = 2 := by
  unfold widthV at h ⊢
  split
  · rename_i h1; rw [if_pos h1] at h; exact absurd (by decide) h
  · rename_i h1
    rw [if_neg h1] at h
    split
    · rename_i h2; rw [if_pos h2] at h; exact absurd (by decide) h
    · split
      · exact .inr rfl
      · exact .inl rfl
theorem write_sp {h0 : Base} {h : Heap} {s : Nat} {S : Scr} {c : Int} {K : Heap → Prop} (hs : Rep h0 h s S) (ok : Ok S) (hk : ∀ h1, Rep h0 h1 s (writeV S c) → K h1) : vt_Screen_write (some ⟨s, 0, none⟩) c K h := by
  unfold vt_Screen_write
  unfold writeV at hk
  refine width_sp fun hh he1 => ?_
  have hs := hs.gap he1
  by_cases h1 : widthV c < 1
  · rw [if_pos h1] at hk ⊢
    exact hk _ hs
  rw [if_neg h1] at hk ⊢
  have hn := widthV_12 h1
  have hs0 := hs
  obtain ⟨A, oM, oO, oP, oT, oG, oK, oL, ho, hp⟩ := hs
  refine nz_i ?_
  simp only [add0, Nat.zero_add]
  refine ldB0 ho rfl ?_
  show if S.pl.second = true then _ else _
  have fin : ∀ b : Bool, (if S.pl.second = true then S.pl.l1 else S.pl.l0) = b → ∀ j : Int, 0 ≤ j ∧ j < 2 → (scrC S A)[15 + j.toNat]? = some (.bool b) → vt_Screen_write_j0 (fun h201 => K h201) (fun h203 => K h203) ⟨s, 0, none⟩ c (widthV c) c j hh := by
    intro b hb j hj hcell
    unfold vt_Screen_write_j0
    simp only [add0, Nat.zero_add]
    refine ⟨hj.1, hj.2, ldB0 ho (by rw [Nat.mul_one]; exact hcell) ?_⟩
    rw [hb] at hk
    by_cases hb2 : b = true
    · rw [if_pos hb2] at hk ⊢
      exact fun h2 he2 => write_j1 (hs0.gap he2) ok hn hk
    · rw [if_neg hb2] at hk ⊢
      exact write_j1 hs0 ok hn hk
  by_cases h2 : S.pl.second = true
  · rw [if_pos h2]
    exact fin S.pl.l1 (by rw [if_pos h2]) 1 (by omega) rfl
  · rw [if_neg h2]
    exact fin S.pl.l0 (by rw [if_neg h2]) 0 (by omega) rfl
end Go.Proofs.YthjdnhhifjpidaaDoor.M
