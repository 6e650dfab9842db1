import Derived.Test.YthjdnhhifjpidaaGreatDoorF6
set_option linter.unusedVariables false
set_option linter.unusedSimpArgs false
set_option maxRecDepth 100000
namespace Go.Proofs.YthjdnhhifjpidaaGreatDoor.M
open Go Go.Hp

/-! ### Small laws -/
theorem ldL0 {h0 : Base} {h : Heap} {b : Nat} {cs : Array Value} {t : TypeId} {l} {a : Option Addr} {n c off : Nat} {K : Option Addr → Nat → Nat → Prop} (ho : Own h0 h ((b, cs, t) :: l)) (hv : cs[off]? = some (.slice a n c)) (hk : K a n c) : ldL h ⟨b, off, none⟩ K := ⟨a, n, c, ho.get0.cell off hv, hk⟩
theorem ldP0 {h0 : Base} {h : Heap} {b : Nat} {cs : Array Value} {t : TypeId} {l} {a : Option Addr} {off : Nat} {K : Option Addr → Prop} (ho : Own h0 h ((b, cs, t) :: l)) (hv : cs[off]? = some (.pointer a)) (hk : K a) : ldP h ⟨b, off, none⟩ K := ⟨a, ho.get0.cell off hv, hk⟩
theorem mk_o {h0 : Base} {h : Heap} {l} {et : TypeId} {by_ : Nat} {z : List Value} {n : Int} {K : Nat → Heap → Prop} (ho : Own h0 h l) (h1 : 0 ≤ n) (h2 : (by_ : Int) * n ≤ 281474976710656) (h3 : n ≤ 9223372036854775807) (k : ∀ b h1, Own h0 h1 ((b, (zeros z n.toNat).toArray, et) :: l) → K b h1) : mkM h et by_ z n K :=
  ⟨⟨h1, h2⟩, h3, newB_o ho k⟩
theorem wrap64 {x : Int} (h0 : -9223372036854775808 ≤ x) (h1 : x ≤ 9223372036854775807) : IntKind.wrap .i64 x = x := by rw [IntKind.wrap_i64]; omega
theorem addadd (a : Addr) (i j : Nat) : (a.add i).add j = a.add (i + j) := by
  unfold Addr.add
  by_cases hi : i = 0 <;> by_cases hj : j = 0 <;> simp [hi, hj, Nat.add_assoc]

/-! ### The screen, as plain data -/
abbrev Gl := ByteArray × Int × Int × Int × Int
abbrev gf (g : Gl) : List Value := [.string g.1, .int .i64 g.2.1, .int .i64 g.2.2.1, .int .i64 g.2.2.2.1, .int .i64 g.2.2.2.2]
abbrev rf (r : Option Addr × Nat × Nat) : List Value := [.slice r.1 r.2.1 r.2.2]
abbrev bf (b : Int) : List Value := [.int .u8 b]
abbrev tf (b : Bool) : List Value := [.bool b]
theorem gf_len (g : Gl) : (gf g).length = 5 := rfl
theorem rf_len (r : Option Addr × Nat × Nat) : (rf r).length = 1 := rfl
theorem bf_len (b : Int) : (bf b).length = 1 := rfl
theorem tf_len (b : Bool) : (tf b).length = 1 := rfl
/-- What is kept of a cursor. -/
structure Pl where
  x : Int
  y : Int
  fore : Int
  back : Int
  marks : Int
  origin : Bool
  l0 : Bool
  l1 : Bool
  second : Bool
  waiting : Bool
def plC (p : Pl) : Array Value := #[.int .i64 p.x, .int .i64 p.y, .int .i64 p.fore, .int .i64 p.back, .int .i64 p.marks, .bool p.origin, .bool p.l0, .bool p.l1, .bool p.second, .bool p.waiting]
structure Scr where
  w : Int
  h : Int
  most : Int
  main : List (List Gl)
  mkept : Option Pl
  other : List (List Gl)
  okept : Option Pl
  alt : Bool
  past : List (List Gl)
  pl : Pl
  top : Int
  bottom : Int
  tabs : List Bool
  insert : Bool
  newline : Bool
  wrap : Bool
  app : Bool
  bracket : Bool
  hidden : Bool
  title : ByteArray
  bells : Int
  answer : ByteArray
  state : Int
  gathered : List Int
  over : Bool
  u0 : Int
  u1 : Int
  u2 : Int
  u3 : Int
  have_ : Int
  want : Int
  last : Int
/-- Where its parts stand. -/
structure Refs where
  m : Option Addr
  mn : Nat
  mc : Nat
  mq : Option Addr
  o : Option Addr
  on : Nat
  oc : Nat
  oq : Option Addr
  p : Option Addr
  pn : Nat
  pc : Nat
  t : Option Addr
  tn : Nat
  tc : Nat
  g : Option Addr
  gn : Nat
  gc : Nat
def scrC (S : Scr) (A : Refs) : Array Value :=
  (.int .i64 S.w :: .int .i64 S.h :: .int .i64 S.most :: .slice A.m A.mn A.mc :: .pointer A.mq :: .slice A.o A.on A.oc :: .pointer A.oq :: .bool S.alt :: .slice A.p A.pn A.pc :: .int .i64 S.pl.x :: .int .i64 S.pl.y :: .int .i64 S.pl.fore :: .int .i64 S.pl.back :: .int .i64 S.pl.marks :: .bool S.pl.origin :: .bool S.pl.l0 :: .bool S.pl.l1 :: .bool S.pl.second :: .bool S.pl.waiting :: .int .i64 S.top :: .int .i64 S.bottom :: .slice A.t A.tn A.tc :: .bool S.insert :: .bool S.newline :: .bool S.wrap :: .bool S.app :: .bool S.bracket :: .bool S.hidden :: .string S.title :: .int .i64 S.bells :: .string S.answer :: .int .i64 S.state :: .slice A.g A.gn A.gc :: .bool S.over :: .int .u8 S.u0 :: .int .u8 S.u1 :: .int .u8 S.u2 :: .int .u8 S.u3 :: .int .i64 S.have_ :: .int .i64 S.want :: .int .i32 S.last :: [] : List Value).toArray
abbrev Blks := List (Nat × Array Value × TypeId)
/-- Rows, each in a block of its own: their headers' slice, then they themselves. -/
def RowsB (ks : List (Option Addr × Nat × Nat)) (R : List (List Gl)) (bs : List Blks) : Prop :=
  ks.length = R.length ∧ bs.length = R.length ∧ ∀ i, i < R.length → SlO gf 5 52 (ks.getD i (none, 0, 0)).1 (ks.getD i (none, 0, 0)).2.1 (ks.getD i (none, 0, 0)).2.2 (R.getD i []) (bs.getD i [])
def RowsR (a : Option Addr) (n c : Nat) (R : List (List Gl)) (o : Blks) : Prop :=
  ∃ ks oh bs, o = oh ++ bs.flatten ∧ SlO rf 1 81 a n c ks oh ∧ RowsB ks R bs
def KeptR (a : Option Addr) (p : Option Pl) (o : Blks) : Prop := match p with
  | none => a = none ∧ o = []
  | some p => ∃ b, a = some ⟨b, 0, none⟩ ∧ o = [(b, plC p, 74)]
/-- The screen S stands at block s; ob: all the blocks of its parts. -/
structure Parts (S : Scr) (A : Refs) (oM oO oP oT oG oK oL : Blks) : Prop where
  main : RowsR A.m A.mn A.mc S.main oM
  other : RowsR A.o A.on A.oc S.other oO
  past : RowsR A.p A.pn A.pc S.past oP
  tabs : SlO tf 1 4 A.t A.tn A.tc S.tabs oT
  gath : SlO bf 1 5 A.g A.gn A.gc S.gathered oG
  mkept : KeptR A.mq S.mkept oK
  okept : KeptR A.oq S.okept oL
def Rep (h0 : Base) (h : Heap) (s : Nat) (S : Scr) : Prop :=
  ∃ A oM oO oP oT oG oK oL, Own h0 h ((s, scrC S A, 80) :: (oM ++ (oO ++ (oP ++ (oT ++ (oG ++ (oK ++ oL))))))) ∧ Parts S A oM oO oP oT oG oK oL
theorem Rep.gap {h0 : Base} {h h1 : Heap} {s : Nat} {S : Scr} (hs : Rep h0 h s S) (he : Ext h h1) : Rep h0 h1 s S := by
  obtain ⟨A, oM, oO, oP, oT, oG, oK, oL, ho, hp⟩ := hs
  exact ⟨A, oM, oO, oP, oT, oG, oK, oL, ho.gap he, hp⟩
theorem Rep.ext {h0 : Base} {h : Heap} {s : Nat} {S : Scr} (hs : Rep h0 h s S) : Ext h0.h h := by
  obtain ⟨A, oM, oO, oP, oT, oG, oK, oL, ho, hp⟩ := hs
  exact ho.ext

/-! ### Where the cursor goes -/
def toV (S : Scr) (x y : Int) : Scr := { S with pl := { S.pl with x := imax 0 (imin x (IntKind.wrap .i64 (S.w - 1))), y := imax 0 (imin y (IntKind.wrap .i64 (S.h - 1))), waiting := false } }
theorem to_sp {h0 : Base} {h : Heap} {s : Nat} {S : Scr} {x y : Int} {K : Heap → Prop} (hs : Rep h0 h s S) (hk : ∀ h1, Rep h0 h1 s (toV S x y) → K h1) : vt_Screen_to (some ⟨s, 0, none⟩) x y K h := by
  obtain ⟨A, oM, oO, oP, oT, oG, oK, oL, ho, hp⟩ := hs
  unfold vt_Screen_to
  refine nz_i ?_
  simp only [add0, Nat.zero_add]
  repeat (first | ((with_reducible apply newB_o); (with_reducible assumption); intro _ _ _) | ((with_reducible apply st0); (with_reducible assumption); rfl; intro _ _) | ((with_reducible apply ldI0); (with_reducible assumption); rfl) | ((with_reducible apply ldB0); (with_reducible assumption); rfl) | ((with_reducible apply ldS0); (with_reducible assumption); rfl) | (with_reducible apply nz_i))
  exact hk _ ⟨A, oM, oO, oP, oT, oG, oK, oL, by assumption, hp.1, hp.2, hp.3, hp.4, hp.5, hp.6, hp.7⟩
def homeV (S : Scr) (y x : Int) : Scr := toV S (IntKind.wrap .i64 (x - 1)) (if S.pl.origin = true then imin (IntKind.wrap .i64 (IntKind.wrap .i64 (y - 1) + S.top)) S.bottom else IntKind.wrap .i64 (y - 1))
def rowsUpV (S : Scr) (n : Int) : Scr := toV S S.pl.x (imax (if S.top ≤ S.pl.y then S.top else 0) (IntKind.wrap .i64 (S.pl.y - n)))
def rowsDownV (S : Scr) (n : Int) : Scr := toV S S.pl.x (imin (if S.pl.y ≤ S.bottom then S.bottom else IntKind.wrap .i64 (S.h - 1)) (IntKind.wrap .i64 (S.pl.y + n)))
end Go.Proofs.YthjdnhhifjpidaaGreatDoor.M
set_option maxRecDepth 100000
namespace Go.Proofs.YthjdnhhifjpidaaGreatDoor.M
open Go Go.Hp

theorem home_sp {h0 : Base} {h : Heap} {s : Nat} {S : Scr} {x y : Int} {K : Heap → Prop} (hs : Rep h0 h s S) (hk : ∀ h1, Rep h0 h1 s (homeV S y x) → K h1) : vt_Screen_home (some ⟨s, 0, none⟩) y x K h := by
  have hs0 := hs
  obtain ⟨A, oM, oO, oP, oT, oG, oK, oL, ho, hp⟩ := hs
  unfold vt_Screen_home
  unfold homeV at hk
  refine nz_i ?_
  simp only [add0, Nat.zero_add]
  repeat (first | ((with_reducible apply newB_o); (with_reducible assumption); intro _ _ _) | ((with_reducible apply st0); (with_reducible assumption); rfl; intro _ _) | ((with_reducible apply ldI0); (with_reducible assumption); rfl) | ((with_reducible apply ldB0); (with_reducible assumption); rfl) | ((with_reducible apply ldS0); (with_reducible assumption); rfl) | (with_reducible apply nz_i))
  by_cases hc : S.pl.origin = true
  · rw [if_pos hc] at hk ⊢
    repeat (first | ((with_reducible apply newB_o); (with_reducible assumption); intro _ _ _) | ((with_reducible apply st0); (with_reducible assumption); rfl; intro _ _) | ((with_reducible apply ldI0); (with_reducible assumption); rfl) | ((with_reducible apply ldB0); (with_reducible assumption); rfl) | ((with_reducible apply ldS0); (with_reducible assumption); rfl) | (with_reducible apply nz_i))
    exact to_sp hs0 hk
  · rw [if_neg hc] at hk ⊢
    exact to_sp hs0 hk
theorem rowsUp_sp {h0 : Base} {h : Heap} {s : Nat} {S : Scr} {n : Int} {K : Heap → Prop} (hs : Rep h0 h s S) (hk : ∀ h1, Rep h0 h1 s (rowsUpV S n) → K h1) : vt_Screen_rowsUp (some ⟨s, 0, none⟩) n K h := by
  have hs0 := hs
  obtain ⟨A, oM, oO, oP, oT, oG, oK, oL, ho, hp⟩ := hs
  unfold vt_Screen_rowsUp vt_Screen_rowsUp_j0
  unfold rowsUpV at hk
  refine nz_i ?_
  simp only [add0, Nat.zero_add]
  repeat (first | ((with_reducible apply newB_o); (with_reducible assumption); intro _ _ _) | ((with_reducible apply st0); (with_reducible assumption); rfl; intro _ _) | ((with_reducible apply ldI0); (with_reducible assumption); rfl) | ((with_reducible apply ldB0); (with_reducible assumption); rfl) | ((with_reducible apply ldS0); (with_reducible assumption); rfl) | (with_reducible apply nz_i))
  by_cases hc : S.top ≤ S.pl.y
  · rw [if_pos hc] at hk ⊢
    repeat (first | ((with_reducible apply newB_o); (with_reducible assumption); intro _ _ _) | ((with_reducible apply st0); (with_reducible assumption); rfl; intro _ _) | ((with_reducible apply ldI0); (with_reducible assumption); rfl) | ((with_reducible apply ldB0); (with_reducible assumption); rfl) | ((with_reducible apply ldS0); (with_reducible assumption); rfl) | (with_reducible apply nz_i))
    exact to_sp hs0 hk
  · rw [if_neg hc] at hk ⊢
    repeat (first | ((with_reducible apply newB_o); (with_reducible assumption); intro _ _ _) | ((with_reducible apply st0); (with_reducible assumption); rfl; intro _ _) | ((with_reducible apply ldI0); (with_reducible assumption); rfl) | ((with_reducible apply ldB0); (with_reducible assumption); rfl) | ((with_reducible apply ldS0); (with_reducible assumption); rfl) | (with_reducible apply nz_i))
    exact to_sp hs0 hk
theorem rowsDown_sp {h0 : Base} {h : Heap} {s : Nat} {S : Scr} {n : Int} {K : Heap → Prop} (hs : Rep h0 h s S) (hk : ∀ h1, Rep h0 h1 s (rowsDownV S n) → K h1) : vt_Screen_rowsDown (some ⟨s, 0, none⟩) n K h := by
  have hs0 := hs
  obtain ⟨A, oM, oO, oP, oT, oG, oK, oL, ho, hp⟩ := hs
  unfold vt_Screen_rowsDown vt_Screen_rowsDown_j0
  unfold rowsDownV at hk
  refine nz_i ?_
  simp only [add0, Nat.zero_add]
  repeat (first | ((with_reducible apply newB_o); (with_reducible assumption); intro _ _ _) | ((with_reducible apply st0); (with_reducible assumption); rfl; intro _ _) | ((with_reducible apply ldI0); (with_reducible assumption); rfl) | ((with_reducible apply ldB0); (with_reducible assumption); rfl) | ((with_reducible apply ldS0); (with_reducible assumption); rfl) | (with_reducible apply nz_i))
  by_cases hc : S.pl.y ≤ S.bottom
  · rw [if_pos hc] at hk ⊢
    repeat (first | ((with_reducible apply newB_o); (with_reducible assumption); intro _ _ _) | ((with_reducible apply st0); (with_reducible assumption); rfl; intro _ _) | ((with_reducible apply ldI0); (with_reducible assumption); rfl) | ((with_reducible apply ldB0); (with_reducible assumption); rfl) | ((with_reducible apply ldS0); (with_reducible assumption); rfl) | (with_reducible apply nz_i))
    exact to_sp hs0 hk
  · rw [if_neg hc] at hk ⊢
    repeat (first | ((with_reducible apply newB_o); (with_reducible assumption); intro _ _ _) | ((with_reducible apply st0); (with_reducible assumption); rfl; intro _ _) | ((with_reducible apply ldI0); (with_reducible assumption); rfl) | ((with_reducible apply ldB0); (with_reducible assumption); rfl) | ((with_reducible apply ldS0); (with_reducible assumption); rfl) | (with_reducible apply nz_i))
    exact to_sp hs0 hk
theorem shown_sp {h0 : Base} {h : Heap} {s : Nat} {S : Scr} {K : Option Addr → Heap → Prop} (hs : Rep h0 h s S) (h1 : S.alt = true → K (some ⟨s, 5, none⟩) h) (h2 : S.alt = false → K (some ⟨s, 3, none⟩) h) : vt_Screen_shown (some ⟨s, 0, none⟩) K h := by
  obtain ⟨A, oM, oO, oP, oT, oG, oK, oL, ho, hp⟩ := hs
  unfold vt_Screen_shown
  refine nz_i ?_
  simp only [add0, Nat.zero_add]
  repeat (first | ((with_reducible apply newB_o); (with_reducible assumption); intro _ _ _) | ((with_reducible apply st0); (with_reducible assumption); rfl; intro _ _) | ((with_reducible apply ldI0); (with_reducible assumption); rfl) | ((with_reducible apply ldB0); (with_reducible assumption); rfl) | ((with_reducible apply ldS0); (with_reducible assumption); rfl) | (with_reducible apply nz_i))
  by_cases hc : S.alt = true
  · rw [if_pos hc]; exact h1 hc
  · rw [if_neg hc]; exact h2 (by simpa using hc)
def erasedG (S : Scr) : Gl := (⟨#[32]⟩, 1, 0, S.pl.back, 0)
def beginV (S : Scr) (z : Int) : Scr := { S with state := z, gathered := [], over := false }
theorem SlO.cut0 {α : Type} {f : α → List Value} {sz : Nat} {t : TypeId} {a : Option Addr} {n c : Nat} {ks : List α} {o : Blks} (hf : ∀ k, (f k).length = sz) (hs : SlO f sz t a n c ks o) : SlO f sz t a 0 c [] o := by
  obtain ⟨hn, ⟨h1, h2, h3, h4⟩ | ⟨b, cs, rest, h1, h2, hcs, hr, hle⟩⟩ := hs
  · exact ⟨rfl, .inl ⟨h1, h2, h3, rfl⟩⟩
  · refine ⟨rfl, .inr ⟨b, cs, cs.toList, h1, h2, rfl, ?_, by omega⟩⟩
    rw [hcs, List.length_append, flat_len f hf, hr, ← hn, ← Nat.add_mul]
    congr 1
    omega
theorem begin_sp {h0 : Base} {h : Heap} {s : Nat} {S : Scr} {z : Int} {K : Heap → Prop} (hs : Rep h0 h s S) (hk : ∀ h1, Rep h0 h1 s (beginV S z) → K h1) : vt_Screen_begin (some ⟨s, 0, none⟩) z K h := by
  obtain ⟨A, oM, oO, oP, oT, oG, oK, oL, ho, hp⟩ := hs
  unfold vt_Screen_begin
  refine nz_i ?_
  simp only [add0, Nat.zero_add]
  repeat (first | ((with_reducible apply newB_o); (with_reducible assumption); intro _ _ _) | ((with_reducible apply st0); (with_reducible assumption); rfl; intro _ _) | ((with_reducible apply ldI0); (with_reducible assumption); rfl) | ((with_reducible apply ldB0); (with_reducible assumption); rfl) | ((with_reducible apply ldS0); (with_reducible assumption); rfl) | (with_reducible apply nz_i))
  refine ldL0 (by assumption) rfl ⟨by omega, ?_⟩
  have e : cutA A.g A.gc 0 1 = A.g := by
    unfold cutA
    split
    · rfl
    · cases A.g with
      | none => rfl
      | some a => rfl
  rw [e]
  repeat (first | ((with_reducible apply newB_o); (with_reducible assumption); intro _ _ _) | ((with_reducible apply st0); (with_reducible assumption); rfl; intro _ _) | ((with_reducible apply ldI0); (with_reducible assumption); rfl) | ((with_reducible apply ldB0); (with_reducible assumption); rfl) | ((with_reducible apply ldS0); (with_reducible assumption); rfl) | (with_reducible apply nz_i))
  exact hk _ ⟨{ A with gn := 0 }, oM, oO, oP, oT, oG, oK, oL, by assumption, hp.1, hp.2, hp.3, hp.4, SlO.cut0 bf_len hp.5, hp.6, hp.7⟩
def gatherV (S : Scr) (b : Int) : Scr := if (S.gathered.length : Int) = 256 then { S with over := true } else { S with gathered := S.gathered ++ [b] }
theorem gather_sp {h0 : Base} {h : Heap} {s : Nat} {S : Scr} {b : Int} {K : Heap → Prop} (hs : Rep h0 h s S) (hl : S.gathered.length ≤ 256) (hk : ∀ h1, Rep h0 h1 s (gatherV S b) → K h1) : vt_Screen_gather (some ⟨s, 0, none⟩) b K h := by
  obtain ⟨A, oM, oO, oP, oT, oG, oK, oL, ho, hp⟩ := hs
  unfold vt_Screen_gather
  unfold gatherV at hk
  have hn := hp.5.1
  refine nz_i ?_
  simp only [add0, Nat.zero_add]
  refine ldL0 (by assumption) rfl ?_
  rw [← hn] at hk
  by_cases hc : (A.gn : Int) = 256
  · rw [if_pos hc] at hk ⊢
    repeat (first | ((with_reducible apply newB_o); (with_reducible assumption); intro _ _ _) | ((with_reducible apply st0); (with_reducible assumption); rfl; intro _ _) | ((with_reducible apply ldI0); (with_reducible assumption); rfl) | ((with_reducible apply ldB0); (with_reducible assumption); rfl) | ((with_reducible apply ldS0); (with_reducible assumption); rfl) | (with_reducible apply nz_i))
    exact hk _ ⟨A, oM, oO, oP, oT, oG, oK, oL, by assumption, hp.1, hp.2, hp.3, hp.4, hp.5, hp.6, hp.7⟩
  rw [if_neg hc] at hk ⊢
  refine ldL0 (by assumption) rfl ?_
  refine gap_o ho fun h1 ho1 => ?_
  have hoA : Own h0 h1 (((s, scrC S A, 80) :: (oM ++ (oO ++ (oP ++ oT)))) ++ (oG ++ (oK ++ oL))) := by simpa using ho1
  refine SlO.app (f := bf) (sz := 1) (js := [b]) bf_len rfl hp.5 hoA (by simp only [List.length_singleton]; omega) (by simp only [List.length_singleton]; omega) fun a' c' o' h' ho2 hs2 => ?_
  have ho2 : Own h0 h' ((s, scrC S A, 80) :: (oM ++ (oO ++ (oP ++ (oT ++ (o' ++ (oK ++ oL))))))) := by simpa using ho2
  repeat (first | ((with_reducible apply newB_o); (with_reducible assumption); intro _ _ _) | ((with_reducible apply st0); (with_reducible assumption); rfl; intro _ _) | ((with_reducible apply ldI0); (with_reducible assumption); rfl) | ((with_reducible apply ldB0); (with_reducible assumption); rfl) | ((with_reducible apply ldS0); (with_reducible assumption); rfl) | (with_reducible apply nz_i))
  exact hk _ ⟨{ A with g := a', gn := A.gn + 1, gc := c' }, oM, oO, oP, oT, o', oK, oL, by assumption, hp.1, hp.2, hp.3, hp.4, hs2, hp.6, hp.7⟩
def sendsV (S : Scr) (t : ByteArray) : Scr := if S.answer.size + t.size ≤ 4096 then { S with answer := S.answer ++ t } else S
theorem sends_sp {h0 : Base} {h : Heap} {s : Nat} {S : Scr} {t : ByteArray} {K : Heap → Prop} (hs : Rep h0 h s S) (h1 : S.answer.size ≤ 4096) (h2 : t.size ≤ 4096) (hk : ∀ h1, Rep h0 h1 s (sendsV S t) → K h1) : vt_Screen_sends (some ⟨s, 0, none⟩) t K h := by
  have hs0 := hs
  obtain ⟨A, oM, oO, oP, oT, oG, oK, oL, ho, hp⟩ := hs
  unfold vt_Screen_sends
  unfold sendsV at hk
  refine nz_i ?_
  simp only [add0, Nat.zero_add]
  repeat (first | ((with_reducible apply newB_o); (with_reducible assumption); intro _ _ _) | ((with_reducible apply st0); (with_reducible assumption); rfl; intro _ _) | ((with_reducible apply ldI0); (with_reducible assumption); rfl) | ((with_reducible apply ldB0); (with_reducible assumption); rfl) | ((with_reducible apply ldS0); (with_reducible assumption); rfl) | (with_reducible apply nz_i))
  rw [wrap64 (by omega) (by omega)]
  by_cases hc : S.answer.size + t.size ≤ 4096
  · rw [if_pos hc] at hk
    rw [if_pos (by omega)]
    repeat (first | ((with_reducible apply newB_o); (with_reducible assumption); intro _ _ _) | ((with_reducible apply st0); (with_reducible assumption); rfl; intro _ _) | ((with_reducible apply ldI0); (with_reducible assumption); rfl) | ((with_reducible apply ldB0); (with_reducible assumption); rfl) | ((with_reducible apply ldS0); (with_reducible assumption); rfl) | (with_reducible apply nz_i))
    refine ⟨by omega, ?_⟩
    repeat (first | ((with_reducible apply newB_o); (with_reducible assumption); intro _ _ _) | ((with_reducible apply st0); (with_reducible assumption); rfl; intro _ _) | ((with_reducible apply ldI0); (with_reducible assumption); rfl) | ((with_reducible apply ldB0); (with_reducible assumption); rfl) | ((with_reducible apply ldS0); (with_reducible assumption); rfl) | (with_reducible apply nz_i))
    exact hk _ ⟨A, oM, oO, oP, oT, oG, oK, oL, by assumption, hp.1, hp.2, hp.3, hp.4, hp.5, hp.6, hp.7⟩
  · rw [if_neg hc] at hk
    rw [if_neg (by omega)]
    exact hk _ hs0
end Go.Proofs.YthjdnhhifjpidaaGreatDoor.M
set_option maxRecDepth 100000
namespace Go.Proofs.YthjdnhhifjpidaaGreatDoor.M
open Go Go.Hp

/-! ### An element of one's own slice is written -/
theorem flat_set {α : Type} (f : α → List Value) {sz : Nat} (hf : ∀ r, (f r).length = sz) : ∀ (ks : List α) (i : Nat) (k : α), i < ks.length → (ks.set i k).flatMap f = (ks.flatMap f).take (i * sz) ++ (f k ++ (ks.flatMap f).drop (i * sz + sz))
  | x :: ks, 0, k, _ => by
    rw [List.set_cons_zero, List.flatMap_cons, List.flatMap_cons, Nat.zero_mul, Nat.zero_add, List.take_zero, List.nil_append, ← hf x, List.drop_left]
  | x :: ks, i + 1, k, hi => by
    have ih := flat_set f hf ks i k (by simpa using hi)
    have e1 : List.take ((i + 1) * sz) (f x ++ List.flatMap f ks) = f x ++ List.take (i * sz) (List.flatMap f ks) := by
      rw [List.take_append, List.take_of_length_le (l := f x) (by rw [hf, Nat.succ_mul]; omega), hf, show (i + 1) * sz - sz = i * sz by rw [Nat.succ_mul]; omega]
    have e2 : List.drop ((i + 1) * sz + sz) (f x ++ List.flatMap f ks) = List.drop (i * sz + sz) (List.flatMap f ks) := by
      rw [List.drop_append, List.drop_of_length_le (l := f x) (by rw [hf, Nat.succ_mul]; omega), hf, show (i + 1) * sz + sz - sz = i * sz + sz by rw [Nat.succ_mul]; omega, List.nil_append]
    rw [List.set_cons_succ, List.flatMap_cons, List.flatMap_cons, ih, e1, e2, List.append_assoc]
theorem SlO.set {α : Type} {f : α → List Value} {sz : Nat} {t : TypeId} {a : Option Addr} {n c : Nat} {ks : List α} {o pre l : Blks} {h0 : Base} {h : Heap} {K : Heap → Prop} (hf : ∀ k, (f k).length = sz) (hs : SlO f sz t a n c ks o) (ho : Own h0 h (pre ++ (o ++ l))) (i : Nat) (k : α) (hi : i < n) {p : Addr} (hp : a = some p)
    (hK : ∀ h' o', Own h0 h' (pre ++ (o' ++ l)) → SlO f sz t a n c (ks.set i k) o' → K h') : stN (p.add (i * sz)) (f k) 0 h K := by
  obtain ⟨hn, ⟨_, h2, _, h4⟩ | ⟨b, cs, rest, rfl, h2, hcs, hr, hle⟩⟩ := hs
  · rw [h2] at hp; cases hp
  · obtain rfl : p = ⟨b, 0, none⟩ := Option.some.inj (hp.symm.trans h2)
    have hfl := flat_len f hf ks
    have hsz : i * sz + (f k).length ≤ (ks.flatMap f).length := by
      rw [hf, hfl, ← Nat.succ_mul]
      exact Nat.mul_le_mul_right _ (by omega)
    have hcl : cs.size = (ks.flatMap f).length + rest.length := by rw [← Array.length_toList, hcs, List.length_append]
    rw [add0, Nat.zero_add]
    refine stN_blk (Own.mid (x := (b, cs, t)) (by simpa using ho)).1 (show i * sz + 0 + (f k).length ≤ cs.size by omega) fun h1 hp1 => ?_
    refine hK h1 [(b, setL cs (i * sz + 0) (f k), t)] (Own.putAt (l := pre) (l2 := l) (by simpa using ho) hp1) ⟨by rw [List.length_set]; exact hn, .inr ⟨b, _, rest, rfl, h2, ?_, hr, hle⟩⟩
    rw [Nat.add_zero, setL_toList _ _ _ (by omega), hcs, flat_set f hf ks i k (by omega), List.take_append_of_le_length (by omega), List.drop_append_of_le_length (by omega), hf]
    simp
theorem fl_split (bs : List Blks) (i : Nat) (hi : i < bs.length) : bs.flatten = (bs.take i).flatten ++ (bs.getD i [] ++ (bs.drop (i + 1)).flatten) := by
  conv => lhs; rw [← List.take_append_drop i bs]
  rw [List.flatten_append, List.drop_eq_getElem_cons hi, List.flatten_cons, List.getD_eq_getElem?_getD, List.getElem?_eq_getElem hi]
  rfl
theorem fl_set (bs : List Blks) (i : Nat) (b : Blks) (hi : i < bs.length) : (bs.set i b).flatten = (bs.take i).flatten ++ (b ++ (bs.drop (i + 1)).flatten) := by
  rw [fl_split (bs.set i b) i (by simpa using hi), List.take_set_of_le (by omega), List.drop_set_of_lt (by omega)]
  rw [List.getD_eq_getElem?_getD, List.getElem?_set_self (by omega)]
  rfl
theorem RowsB.set {ks R bs} (hr : RowsB ks R bs) (i : Nat) (g : List Gl) (b : Blks) (hs : SlO gf 5 52 (ks.getD i (none, 0, 0)).1 (ks.getD i (none, 0, 0)).2.1 (ks.getD i (none, 0, 0)).2.2 g b) : RowsB ks (R.set i g) (bs.set i b) := by
  obtain ⟨h1, h2, h3⟩ := hr
  refine ⟨by simpa using h1, by simpa using h2, fun j hj => ?_⟩
  rw [List.length_set] at hj
  by_cases hji : j = i
  · subst hji
    rw [List.getD_eq_getElem?_getD (l := R.set j g), List.getElem?_set_self hj, List.getD_eq_getElem?_getD (l := bs.set j b), List.getElem?_set_self (by omega)]
    exact hs
  · rw [List.getD_eq_getElem?_getD (l := R.set i g), List.getElem?_set_ne (by omega), List.getD_eq_getElem?_getD (l := bs.set i b), List.getElem?_set_ne (by omega), ← List.getD_eq_getElem?_getD, ← List.getD_eq_getElem?_getD]
    exact h3 j hj

/-! ### The sheet that is shown -/
def Scr.sh (S : Scr) : List (List Gl) := if S.alt = true then S.other else S.main
def Scr.setSh (S : Scr) (R : List (List Gl)) : Scr := if S.alt = true then { S with other := R } else { S with main := R }
def shA (S : Scr) (s : Nat) : Addr := if S.alt = true then ⟨s, 5, none⟩ else ⟨s, 3, none⟩
/-- The rows that are shown, and the way back. -/
theorem Rep.focus {h0 : Base} {h : Heap} {s : Nat} {S : Scr} (hs : Rep h0 h s S) : ∃ A a n c ks oh bs l, Own h0 h ((s, scrC S A, 80) :: (oh ++ (bs.flatten ++ l))) ∧ cellH h (shA S s) = some (.slice a n c) ∧ SlO rf 1 81 a n c ks oh ∧ RowsB ks S.sh bs ∧
    ∀ h' ks' oh' bs' R', Own h0 h' ((s, scrC S A, 80) :: (oh' ++ (bs'.flatten ++ l))) → SlO rf 1 81 a n c ks' oh' → RowsB ks' R' bs' → Rep h0 h' s (S.setSh R') := by
  obtain ⟨A, oM, oO, oP, oT, oG, oK, oL, ho, hp⟩ := hs
  by_cases ha : S.alt = true
  · obtain ⟨ks, oh, bs, rfl, h1, h2⟩ := hp.other
    refine ⟨A, A.o, A.on, A.oc, ks, oh, bs, oM ++ (oP ++ (oT ++ (oG ++ (oK ++ oL)))), ho.perm (by exact pc), ?_, h1, by unfold Scr.sh; rw [if_pos ha]; exact h2, fun h' ks' oh' bs' R' ho' h1' h2' => ?_⟩
    · unfold shA
      rw [if_pos ha]
      exact ho.get0.cell 5 rfl
    · unfold Scr.setSh
      rw [if_pos ha]
      exact ⟨A, oM, oh' ++ bs'.flatten, oP, oT, oG, oK, oL, (show Own h0 h' ((s, scrC S A, 80) :: (oM ++ ((oh' ++ bs'.flatten) ++ (oP ++ (oT ++ (oG ++ (oK ++ oL))))))) from ho'.perm (by exact pc)), hp.1, ⟨ks', oh', bs', rfl, h1', h2'⟩, hp.3, hp.4, hp.5, hp.6, hp.7⟩
  · obtain ⟨ks, oh, bs, rfl, h1, h2⟩ := hp.main
    refine ⟨A, A.m, A.mn, A.mc, ks, oh, bs, oO ++ (oP ++ (oT ++ (oG ++ (oK ++ oL)))), ho.perm (by exact pc), ?_, h1, by unfold Scr.sh; rw [if_neg ha]; exact h2, fun h' ks' oh' bs' R' ho' h1' h2' => ?_⟩
    · unfold shA
      rw [if_neg ha]
      exact ho.get0.cell 3 rfl
    · unfold Scr.setSh
      rw [if_neg ha]
      exact ⟨A, oh' ++ bs'.flatten, oO, oP, oT, oG, oK, oL, (show Own h0 h' ((s, scrC S A, 80) :: ((oh' ++ bs'.flatten) ++ (oO ++ (oP ++ (oT ++ (oG ++ (oK ++ oL))))))) from ho'.perm (by exact pc)), ⟨ks', oh', bs', rfl, h1', h2'⟩, hp.2, hp.3, hp.4, hp.5, hp.6, hp.7⟩
end Go.Proofs.YthjdnhhifjpidaaGreatDoor.M
set_option maxRecDepth 100000
namespace Go.Proofs.YthjdnhhifjpidaaGreatDoor.M
open Go Go.Hp

/-! ### One row of those that are shown -/
theorem Rep.row {h0 : Base} {h : Heap} {s : Nat} {S : Scr} (hs : Rep h0 h s S) (y : Nat) (hy : y < S.sh.length) : ∃ A rs rn rc p a n c o l, Own h0 h ((s, scrC S A, 80) :: (o ++ l)) ∧ cellH h (shA S s) = some (.slice rs rn rc) ∧ rs = some p ∧ rn = S.sh.length ∧ cellH h (p.add (y * 1)) = some (.slice a n c) ∧
    SlO gf 5 52 a n c (S.sh.getD y []) o ∧ ∀ h' o' g', Own h0 h' ((s, scrC S A, 80) :: (o' ++ l)) → SlO gf 5 52 a n c g' o' → Rep h0 h' s (S.setSh (S.sh.set y g')) := by
  obtain ⟨A, rs, rn, rc, ks, oh, bs, l, ho, hc, h1, h2, h3⟩ := hs.focus
  obtain ⟨k1, k2, k3⟩ := h2
  have hn := h1.1
  have hoH : Own h0 h ([(s, scrC S A, 80)] ++ (oh ++ (bs.flatten ++ l))) := ho
  obtain ⟨p, hp, d⟩ := SlO.get rf_len h1 hoH y (none, 0, 0) (by omega)
  have d0 : cellH h (p.add (y * 1)) = some (.slice (ks.getD y (none, 0, 0)).1 (ks.getD y (none, 0, 0)).2.1 (ks.getD y (none, 0, 0)).2.2) := d 0 _ rfl
  refine ⟨A, rs, rn, rc, p, _, _, _, bs.getD y [], oh ++ ((bs.take y).flatten ++ ((bs.drop (y + 1)).flatten ++ l)), ?_, hc, hp, by omega, d0, k3 y hy, fun h' o' g' ho' hs' => ?_⟩
  · rw [fl_split bs y (by omega)] at ho
    exact ho.perm (by exact pc)
  · refine h3 h' ks oh (bs.set y o') (S.sh.set y g') ?_ h1 (RowsB.set ⟨k1, k2, k3⟩ y g' o' hs')
    rw [fl_set bs y o' (by omega)]
    exact ho'.perm (by exact pc)
theorem row_sp {h0 : Base} {h : Heap} {s : Nat} {S : Scr} {K : Option Addr → Nat → Nat → Heap → Prop} (hs : Rep h0 h s S) (y0 : 0 ≤ S.pl.y) (y1 : S.pl.y < S.sh.length)
    (hk : ∀ A a n c o l, Own h0 h ((s, scrC S A, 80) :: (o ++ l)) → SlO gf 5 52 a n c (S.sh.getD S.pl.y.toNat []) o → (∀ h' o' g', Own h0 h' ((s, scrC S A, 80) :: (o' ++ l)) → SlO gf 5 52 a n c g' o' → Rep h0 h' s (S.setSh (S.sh.set S.pl.y.toNat g'))) → K a n c h) :
    vt_Screen_row (some ⟨s, 0, none⟩) K h := by
  obtain ⟨A, rs, rn, rc, p, a, n, c, o, l, ho, hc, hp, hn, hd, h1, h2⟩ := hs.row S.pl.y.toNat (by omega)
  have hkk := hk A a n c o l ho h1 h2
  subst hp
  unfold vt_Screen_row
  refine nz_i ?_
  simp only [add0, Nat.zero_add]
  refine ldI0 ho rfl ?_
  have rest : ∀ q : Addr, shA S s = q → (cellH h ⟨s, 10, none⟩ = some (.int .i64 S.pl.y)) ∧ nz (some q) fun p10 => ldL h p10 fun x11 x11n x11c => nz x11 fun p17 => 0 ≤ S.pl.y ∧ S.pl.y < (x11n : Int) ∧ ldL h (p17.add ((S.pl.y).toNat * 1)) fun x18 x18n x18c => K x18 x18n x18c h := by
    intro q hq
    rw [hq] at hc
    exact ⟨ho.get0.cell 10 rfl, nz_i ⟨_, _, _, hc, nz_i ⟨y0, by omega, ⟨_, _, _, hd, hkk⟩⟩⟩⟩
  refine shown_sp hs (fun ha => ?_) (fun ha => ?_)
  · exact rest _ (by unfold shA; rw [if_pos ha])
  · exact rest _ (by unfold shA; rw [if_neg (by rw [ha]; decide)])
/-- A letter of two places that a row is cut through is mended. -/
def blankOf (g : Gl) : Gl := (⟨#[32]⟩, 1, g.2.2.1, g.2.2.2.1, g.2.2.2.2)
def gl0 : Gl := (⟨#[]⟩, 0, 0, 0, 0)
def cutV (r : List Gl) (at_ : Int) : List Gl :=
  if 0 < at_ ∧ at_ < r.length ∧ (r.getD at_.toNat gl0).2.1 = 0 then (r.set (at_ - 1).toNat (blankOf (r.getD (at_ - 1).toNat gl0))).set at_.toNat (blankOf (r.getD at_.toNat gl0)) else r
theorem cutV_len (r : List Gl) (at_ : Int) : (cutV r at_).length = r.length := by
  unfold cutV
  split
  · simp
  · rfl
theorem cut_sp {h0 : Base} {h : Heap} {a : Option Addr} {n c : Nat} {r : List Gl} {o pre l : Blks} {i : Int} {K : Heap → Prop} (hs : SlO gf 5 52 a n c r o) (ho : Own h0 h (pre ++ (o ++ l))) (hn : n < 9000000000000000000)
    (hk : ∀ h' o', Own h0 h' (pre ++ (o' ++ l)) → SlO gf 5 52 a n c (cutV r i) o' → K h') : vt_row_cut a n c i K h := by
  have hl := hs.1
  unfold vt_row_cut
  unfold cutV at hk
  by_cases hc : ((decide (0 < i)) && (decide (i < (n : Int)))) = true
  · rw [if_pos hc]
    simp only [Bool.and_eq_true, decide_eq_true_eq] at hc
    obtain ⟨p, hp, d⟩ := hs.get gf_len ho i.toNat gl0 (by omega)
    obtain ⟨p', hp', d'⟩ := hs.get gf_len ho (i - 1).toNat gl0 (by omega)
    obtain rfl : p = p' := Option.some.inj (hp.symm.trans hp')
    have hsA := hs
    rw [hp] at hsA ⊢
    refine nz_i ⟨by omega, hc.2, ⟨_, d 1 _ rfl, ?_⟩⟩
    simp only []
    by_cases hz : (r.getD i.toNat gl0).2.1 = 0
    · rw [if_pos ⟨hc.1, by omega, hz⟩] at hk
      rw [if_pos hz, wrap64 (by omega) (by omega)]
      refine ⟨by omega, by omega, ⟨_, d' 2 _ rfl, ⟨_, d' 3 _ rfl, ⟨_, d' 4 _ rfl, ?_⟩⟩⟩⟩
      refine ⟨by omega, by omega, gap_o ho fun h1 ho1 => ?_⟩
      refine SlO.set gf_len hs ho1 (i - 1).toNat (blankOf (r.getD (i - 1).toNat gl0)) (by omega) hp fun h2 o2 ho2 hs2 => ?_
      obtain ⟨p2, hp2, d2⟩ := hs2.get gf_len ho2 i.toNat gl0 (by omega)
      obtain rfl : p = p2 := Option.some.inj (hp.symm.trans hp2)
      have eg : (r.set (i - 1).toNat (blankOf (r.getD (i - 1).toNat gl0))).getD i.toNat gl0 = r.getD i.toNat gl0 := by
        rw [List.getD_eq_getElem?_getD, List.getElem?_set_ne (by omega), ← List.getD_eq_getElem?_getD]
      rw [eg] at d2
      refine ⟨by omega, hc.2, ⟨_, d2 2 _ rfl, ⟨_, d2 3 _ rfl, ⟨_, d2 4 _ rfl, ?_⟩⟩⟩⟩
      refine ⟨by omega, hc.2, gap_o ho2 fun h3 ho3 => ?_⟩
      refine SlO.set gf_len hs2 ho3 i.toNat (blankOf (r.getD i.toNat gl0)) (by omega) hp fun h4 o4 ho4 hs4 => ?_
      exact hk h4 o4 ho4 hs4
    · rw [if_neg (fun hh => hz hh.2.2)] at hk
      rw [if_neg hz]
      exact hk h o ho hs
  · rw [if_neg hc]
    have hc' : ¬ (0 < i ∧ i < (n : Int)) := by simpa using hc
    rw [if_neg (fun hh => hc' ⟨hh.1, by omega⟩)] at hk
    exact hk h o ho hs
/-- Places up to ahead of one are filled. -/
def fillV (r : List Gl) (g : Gl) : Nat → Int → Int → List Gl
  | 0, _, _ => r
  | f + 1, i, to => if i < to then fillV (r.set i.toNat g) g f (i + 1) to else r
theorem fillV_len (g : Gl) : ∀ (f : Nat) (r : List Gl) (i to : Int), (fillV r g f i to).length = r.length
  | 0, _, _, _ => rfl
  | f + 1, r, i, to => by
    unfold fillV
    split
    · rw [fillV_len g f]; simp
    · rfl
def eraseV (r : List Gl) (i to : Int) (g : Gl) : List Gl := fillV (cutV (cutV r i) to) g (to - i).toNat i to
theorem erase_l0 {h0 : Base} {a : Option Addr} {n c b : Nat} {pre l : Blks} {to : Int} {g : Gl} {K0 : Heap → Prop} (hto : to ≤ n) (hn : n < 9000000000000000000) :
    ∀ (f : Nat) (i : Int) (h : Heap) (r : List Gl) (o : Blks), SlO gf 5 52 a n c r o → Own h0 h (((b, #[.string g.1, .int .i64 g.2.1, .int .i64 g.2.2.1, .int .i64 g.2.2.2.1, .int .i64 g.2.2.2.2], 52) :: pre) ++ (o ++ l)) → 0 ≤ i → (to - i).toNat = f →
      (∀ h' o', Own h0 h' (pre ++ (o' ++ l)) → SlO gf 5 52 a n c (fillV r g f i to) o' → K0 h') → vt_row_erase_l0 K0 (f + 1) a n c to b i h := by
  intro f
  induction f with
  | zero =>
    intro i h r o hs ho hi hf hk
    unfold vt_row_erase_l0
    rw [if_neg (by omega)]
    have ho' : Own h0 h ((b, _, 52) :: (pre ++ (o ++ l))) := ho
    exact hk h o ho'.tail hs
  | succ f ih =>
    intro i h r o hs ho hi hf hk
    have ho' : Own h0 h ((b, #[.string g.1, .int .i64 g.2.1, .int .i64 g.2.2.1, .int .i64 g.2.2.2.1, .int .i64 g.2.2.2.2], 52) :: (pre ++ (o ++ l))) := ho
    unfold vt_row_erase_l0
    unfold fillV at hk
    rw [if_pos (by omega)] at hk ⊢
    refine ldS0 ho' rfl ?_
    refine ldI0 ho' rfl ?_
    refine ldI0 ho' rfl ?_
    refine ldI0 ho' rfl ?_
    refine ldI0 ho' rfl ?_
    obtain ⟨p, hp, _⟩ := hs.get gf_len ho i.toNat gl0 (by omega)
    rw [hp]
    refine nz_i ⟨hi, by omega, ?_⟩
    refine SlO.set gf_len hs ho i.toNat g (by omega) hp fun h2 o2 ho2 hs2 => ?_
    rw [wrap64 (by omega) (by omega), ← hp]
    exact ih (i + 1) h2 _ o2 hs2 ho2 (by omega) (by omega) hk
theorem erase_sp {h0 : Base} {h : Heap} {a : Option Addr} {n c : Nat} {r : List Gl} {o pre l : Blks} {i to : Int} {g : Gl} {K : Heap → Prop} (hs : SlO gf 5 52 a n c r o) (ho : Own h0 h (pre ++ (o ++ l))) (hi : 0 ≤ i) (hto : to ≤ n) (hn : n < 9000000000000000000)
    (hk : ∀ h' o', Own h0 h' (pre ++ (o' ++ l)) → SlO gf 5 52 a n c (eraseV r i to g) o' → K h') : vt_row_erase a n c i to g.1 g.2.1 g.2.2.1 g.2.2.2.1 g.2.2.2.2 K h := by
  unfold vt_row_erase
  refine newB_o ho fun b h1 ho1 => ?_
  have ho1 : Own h0 h1 (((b, #[.string g.1, .int .i64 g.2.1, .int .i64 g.2.2.1, .int .i64 g.2.2.2.1, .int .i64 g.2.2.2.2], 52) :: pre) ++ (o ++ l)) := ho1
  refine cut_sp hs ho1 hn fun h2 o2 ho2 hs2 => ?_
  refine cut_sp hs2 ho2 hn fun h3 o3 ho3 hs3 => ⟨(to - i).toNat + 1, ?_⟩
  exact erase_l0 hto hn (to - i).toNat i h3 _ o3 hs3 ho3 hi rfl hk
end Go.Proofs.YthjdnhhifjpidaaGreatDoor.M
set_option maxRecDepth 100000
namespace Go.Proofs.YthjdnhhifjpidaaGreatDoor.M
open Go Go.Hp

/-! ### New rows, a new sheet -/
theorem rep_flat {α : Type} (f : α → List Value) (k : α) : ∀ n : Nat, (List.replicate n k).flatMap f = zeros (f k) n
  | 0 => rfl
  | n + 1 => by
    have := rep_flat f k n
    unfold zeros at this ⊢
    rw [List.replicate_succ, List.flatMap_cons, this, List.replicate_succ, List.flatten_cons]
theorem zeros_slo {α : Type} {f : α → List Value} {sz : Nat} {t : TypeId} {b n : Nat} (k : α) : SlO f sz t (some ⟨b, 0, none⟩) n n (List.replicate n k) [(b, (zeros (f k) n).toArray, t)] :=
  ⟨by simp, .inr ⟨b, _, [], rfl, rfl, by rw [rep_flat]; simp, by simp, Nat.le_refl _⟩⟩
def blankG (f b m : Int) : Gl := (⟨#[32]⟩, 1, f, b, m)
theorem fresh_l0 {h0 : Base} {b : Nat} {l : Blks} {f b_ m w : Int} {a : Option Addr} {n c : Nat} {K : Option Addr → Nat → Nat → Heap → Prop} (hw : w = n) (hn : n ≤ 100000) :
    ∀ (q : Nat) (i : Nat) (h : Heap) (r : List Gl) (o : Blks), SlO gf 5 52 a n c r o → Own h0 h ([(b, #[.int .i64 f, .int .i64 b_, .int .i64 m], 50)] ++ (o ++ l)) → n - i = q → i ≤ n → (∀ j, j < i → r.getD j gl0 = blankG f b_ m) →
      (∀ h' o', Own h0 h' (o' ++ l) → SlO gf 5 52 a n c (List.replicate n (blankG f b_ m)) o' → K a n c h') → vt_fresh_l0 K (q + 1) b a n c w i h := by
  intro q
  induction q with
  | zero =>
    intro i h r o hs ho hq hi hr hk
    have ho' : Own h0 h ((b, #[.int .i64 f, .int .i64 b_, .int .i64 m], 50) :: (o ++ l)) := ho
    unfold vt_fresh_l0
    rw [if_neg (by omega)]
    have hl := hs.1
    have e : r = List.replicate n (blankG f b_ m) := by
      apply List.ext_getElem?
      intro j
      by_cases hj : j < n
      · have := hr j (by omega)
        rw [List.getD_eq_getElem?_getD, List.getElem?_eq_getElem (by omega)] at this
        rw [List.getElem?_eq_getElem (by omega), List.getElem?_replicate, if_pos hj]
        exact congrArg some this
      · rw [List.getElem?_eq_none (by omega), List.getElem?_replicate, if_neg hj]
    rw [e] at hs
    exact hk h o ho'.tail hs
  | succ q ih =>
    intro i h r o hs ho hq hi hr hk
    have ho' : Own h0 h ((b, #[.int .i64 f, .int .i64 b_, .int .i64 m], 50) :: (o ++ l)) := ho
    unfold vt_fresh_l0
    rw [if_pos (by omega)]
    refine ldI0 ho' rfl ?_
    refine ldI0 ho' rfl ?_
    refine ldI0 ho' rfl ?_
    obtain ⟨p, hp, _⟩ := hs.get gf_len ho i gl0 (by omega)
    rw [hp]
    refine nz_i ⟨by omega, by omega, gap_o ho fun h1 ho1 => ?_⟩
    rw [show ((i : Int)).toNat = i by omega]
    refine SlO.set gf_len hs ho1 i (blankG f b_ m) (by omega) hp fun h2 o2 ho2 hs2 => ?_
    rw [wrap64 (by omega) (by omega), show (i : Int) + 1 = ((i + 1 : Nat) : Int) by omega, ← hp]
    have hl := hs.1
    refine ih (i + 1) h2 _ o2 hs2 ho2 (by omega) (by omega) (fun j hj => ?_) hk
    by_cases hji : j = i
    · subst hji
      rw [List.getD_eq_getElem?_getD, List.getElem?_set_self (by omega)]
      rfl
    · rw [List.getD_eq_getElem?_getD, List.getElem?_set_ne (by omega), ← List.getD_eq_getElem?_getD]
      exact hr j (by omega)
theorem fresh_sp {h0 : Base} {h : Heap} {l : Blks} {w f b m : Int} {K : Option Addr → Nat → Nat → Heap → Prop} (ho : Own h0 h l) (w0 : 0 ≤ w) (w1 : w ≤ 100000)
    (hk : ∀ a o h1, Own h0 h1 (o ++ l) → SlO gf 5 52 a w.toNat w.toNat (List.replicate w.toNat (blankG f b m)) o → K a w.toNat w.toNat h1) : vt_fresh w f b m K h := by
  unfold vt_fresh
  refine newB_o ho fun b5 h1 ho1 => mk_o ho1 w0 (by omega) (by omega) fun b8 h2 ho2 => ⟨w.toNat + 1, ?_⟩
  rw [show ((w.toNat : Nat) : Int) = w by omega]
  have hz : SlO gf 5 52 (some ⟨b8, 0, none⟩) w.toNat w.toNat (List.replicate w.toNat gl0) [(b8, (zeros (gf gl0) w.toNat).toArray, 52)] := zeros_slo gl0
  refine fresh_l0 (n := w.toNat) (l := l) (by omega) (by omega) w.toNat 0 h2 _ _ hz (ho2.perm (List.Perm.swap _ _ _)) (by omega) (by omega) (fun j hj => by omega) fun h' o' ho' hs' => hk _ o' h' ho' hs'
def sheetV (w h f b m : Int) : List (List Gl) := List.replicate h.toNat (List.replicate w.toNat (blankG f b m))
theorem RowsB.snoc {ks R bs} (hr : RowsB ks R bs) (k : Option Addr × Nat × Nat) (g : List Gl) (b : Blks) (hs : SlO gf 5 52 k.1 k.2.1 k.2.2 g b) : RowsB (ks ++ [k]) (R ++ [g]) (bs ++ [b]) := by
  obtain ⟨h1, h2, h3⟩ := hr
  refine ⟨by simp [h1], by simp [h2], fun i hi => ?_⟩
  rw [List.length_append, List.length_singleton] at hi
  by_cases hii : i < R.length
  · rw [List.getD_eq_getElem?_getD (l := ks ++ [k]), List.getElem?_append_left (by omega), List.getD_eq_getElem?_getD (l := R ++ [g]), List.getElem?_append_left hii, List.getD_eq_getElem?_getD (l := bs ++ [b]), List.getElem?_append_left (by omega), ← List.getD_eq_getElem?_getD, ← List.getD_eq_getElem?_getD, ← List.getD_eq_getElem?_getD]
    exact h3 i hii
  · obtain rfl : i = R.length := by omega
    rw [List.getD_eq_getElem?_getD (l := ks ++ [k]), List.getElem?_append_right (by omega), List.getD_eq_getElem?_getD (l := R ++ [g]), List.getElem?_append_right (by omega), List.getD_eq_getElem?_getD (l := bs ++ [b]), List.getElem?_append_right (by omega), h1, h2]
    simpa using hs
theorem RowsB.nil : RowsB [] [] [] := ⟨rfl, rfl, fun i hi => by simp at hi⟩
theorem sheet_l0 {h0 : Base} {b6 b9 b12 : Nat} {l : Blks} {w hh f b m : Int} {K0 : Nat → Nat → Heap → Prop} (w0 : 0 ≤ w) (w1 : w ≤ 100000) (hh1 : hh ≤ 100000) :
    ∀ (q : Nat) (i : Nat) (h : Heap) (a : Option Addr) (n c : Nat) (ks) (oh : Blks) (R : List (List Gl)) (bs : List Blks), SlO rf 1 81 a n c ks oh → RowsB ks R bs → n = i →
      Own h0 h ((b12, #[.slice a n c, .pointer none], 71) :: (b9, #[.slice none 0 0, .pointer none], 71) :: (b6, #[.int .i64 f, .int .i64 b, .int .i64 m], 50) :: (oh ++ (bs.flatten ++ l))) → (hh - i).toNat = q → (i : Int) ≤ hh ∨ q = 0 →
      R = List.replicate i (List.replicate w.toNat (blankG f b m)) →
      (∀ h' a' c' ks' oh' bs' n', Own h0 h' ((b12, #[.slice a' n' c', .pointer none], 71) :: (b9, #[.slice none 0 0, .pointer none], 71) :: (b6, #[.int .i64 f, .int .i64 b, .int .i64 m], 50) :: (oh' ++ (bs'.flatten ++ l))) → SlO rf 1 81 a' n' c' ks' oh' → RowsB ks' (List.replicate n' (List.replicate w.toNat (blankG f b m))) bs' → (n' : Int) = i + q → K0 b9 b12 h') →
      vt_sheetOf_l0 K0 (q + 1) w b6 b9 b12 hh i h := by
  intro q
  induction q with
  | zero =>
    intro i h a n c ks oh R bs hs hr hni ho hq hi hR hk
    unfold vt_sheetOf_l0
    rw [if_neg (by omega)]
    subst hR
    subst hni
    exact hk h a c ks oh bs n ho hs hr (by omega)
  | succ q ih =>
    intro i h a n c ks oh R bs hs hr hni ho hq hi hR hk
    unfold vt_sheetOf_l0
    rw [if_pos (by omega)]
    refine ldL0 ho rfl ?_
    refine ldI2 ho rfl ?_
    refine ldI2 ho rfl ?_
    refine ldI2 ho rfl ?_
    refine fresh_sp ho w0 w1 fun ra ro h1 ho1 hrow => ?_
    have ho1' : Own h0 h1 ((b12, #[.slice a n c, .pointer none], 71) :: (b9, #[.slice none 0 0, .pointer none], 71) :: (b6, #[.int .i64 f, .int .i64 b, .int .i64 m], 50) :: (oh ++ (bs.flatten ++ (ro ++ l)))) := ho1.perm (by exact pc)
    refine ⟨ho1'.get0.cell 0 rfl, gap_o ho1' fun h2 ho2 => ⟨ho2.get0.cell 0 rfl, ?_⟩⟩
    have hl := hs.1
    refine SlO.app (f := rf) (sz := 1) (js := [(ra, w.toNat, w.toNat)]) (pre := (b12, #[.slice a n c, .pointer none], 71) :: (b9, #[.slice none 0 0, .pointer none], 71) :: [(b6, #[.int .i64 f, .int .i64 b, .int .i64 m], 50)]) (l := bs.flatten ++ (ro ++ l)) rf_len rfl hs (by simpa using ho2) (by simp only [List.length_singleton]; omega) (by simp only [List.length_singleton]; omega) fun a2 c2 o2 h3 ho3 hs3 => ?_
    have ho3 : Own h0 h3 ((b12, #[.slice a n c, .pointer none], 71) :: (b9, #[.slice none 0 0, .pointer none], 71) :: (b6, #[.int .i64 f, .int .i64 b, .int .i64 m], 50) :: (o2 ++ (bs.flatten ++ (ro ++ l)))) := by simpa using ho3
    refine st0 ho3 rfl fun h4 ho4 => ?_
    rw [wrap64 (by omega) (by omega), show (i : Int) + 1 = ((i + 1 : Nat) : Int) by omega]
    refine ih (i + 1) h4 a2 (n + 1) c2 (ks ++ [(ra, w.toNat, w.toNat)]) o2 (R ++ [List.replicate w.toNat (blankG f b m)]) (bs ++ [ro]) hs3 (hr.snoc _ _ _ hrow) (by omega) ?_ (by omega) (by omega) ?_ fun h' a' c' ks' oh' bs' n' p1 p2 p3 p4 => hk h' a' c' ks' oh' bs' n' p1 p2 p3 (by omega)
    · rw [List.flatten_append, List.flatten_singleton, List.append_assoc]
      exact ho4
    · rw [hR, List.replicate_succ']
theorem sheet_sp {h0 : Base} {h : Heap} {l : Blks} {w hh f b m : Int} {K : Option Addr → Nat → Nat → Option Addr → Heap → Prop} (ho : Own h0 h l) (w0 : 0 ≤ w) (w1 : w ≤ 100000) (h0' : 0 ≤ hh) (h1' : hh ≤ 100000)
    (hk : ∀ a n c o h1, Own h0 h1 (o ++ l) → RowsR a n c (sheetV w hh f b m) o → K a n c none h1) : vt_sheetOf w hh f b m K h := by
  unfold vt_sheetOf
  refine newB_o ho fun b6 h7 ho7 => newB_o ho7 fun b9 h10 ho10 => newB_o ho10 fun b12 h13 ho13 => ⟨hh.toNat + 1, ?_⟩
  refine sheet_l0 (l := l) w0 w1 h1' hh.toNat 0 h13 none 0 0 [] [] [] [] SlO.nil RowsB.nil rfl (by simpa using ho13) (by omega) (by omega) rfl fun h' a' c' ks' oh' bs' n' p1 p2 p3 p4 => ?_
  refine ldL0 p1 rfl ?_
  refine ldP0 p1 rfl ?_
  refine st1 p1 rfl fun h28 ho28 => ?_
  have ho29 := ho28.tail
  refine ldL0 ho29 rfl ?_
  refine ldP0 ho29 rfl ?_
  have en : n' = hh.toNat := by omega
  subst en
  refine hk a' _ c' (oh' ++ bs'.flatten) h28 ?_ ⟨ks', oh', bs', rfl, p2, p3⟩
  rw [List.append_assoc]
  exact ho29.tail.tail
end Go.Proofs.YthjdnhhifjpidaaGreatDoor.M
set_option maxRecDepth 100000
namespace Go.Proofs.YthjdnhhifjpidaaGreatDoor.M
open Go Go.Hp

/-! ### A part of one's own slice is copied to another part of it -/
theorem flat_take {α : Type} (f : α → List Value) {sz : Nat} (hf : ∀ r, (f r).length = sz) : ∀ (ks : List α) (i : Nat), (ks.flatMap f).take (i * sz) = (ks.take i).flatMap f
  | [], i => by simp
  | x :: ks, 0 => by simp
  | x :: ks, i + 1 => by
    rw [List.flatMap_cons, List.take_succ_cons, List.flatMap_cons, List.take_append, List.take_of_length_le (l := f x) (by rw [hf, Nat.succ_mul]; omega), hf, show (i + 1) * sz - sz = i * sz by rw [Nat.succ_mul]; omega, flat_take f hf ks i]
theorem flat_drop {α : Type} (f : α → List Value) {sz : Nat} (hf : ∀ r, (f r).length = sz) : ∀ (ks : List α) (i : Nat), (ks.flatMap f).drop (i * sz) = (ks.drop i).flatMap f
  | [], i => by simp
  | x :: ks, 0 => by simp
  | x :: ks, i + 1 => by
    rw [List.flatMap_cons, List.drop_succ_cons, List.drop_append, List.drop_of_length_le (l := f x) (by rw [hf, Nat.succ_mul]; omega), hf, show (i + 1) * sz - sz = i * sz by rw [Nat.succ_mul]; omega, List.nil_append, flat_drop f hf ks i]
def copyV {α : Type} (ks : List α) (d s m : Nat) : List α := ks.take d ++ ((ks.drop s).take m ++ ks.drop (d + m))
theorem copyV_len {α : Type} (ks : List α) (d s m : Nat) (h1 : d + m ≤ ks.length) (h2 : s + m ≤ ks.length) : (copyV ks d s m).length = ks.length := by
  unfold copyV
  simp only [List.length_append, List.length_take, List.length_drop]
  omega
theorem oneV_flat {α : Type} (f : α → List Value) (hf1 : ∀ k, (f k).all oneV = true) : ∀ ks : List α, (ks.flatMap f).all oneV = true
  | [] => rfl
  | k :: ks => by rw [List.flatMap_cons, List.all_append, hf1, oneV_flat f hf1 ks]; rfl
theorem SlO.copy {α : Type} {f : α → List Value} {sz : Nat} {t : TypeId} {a : Option Addr} {n c : Nat} {ks : List α} {o pre l : Blks} {h0 : Base} {h : Heap} {K : Heap → Prop} (hf : ∀ k, (f k).length = sz) (hf1 : ∀ k, (f k).all oneV = true) (hs : SlO f sz t a n c ks o) (ho : Own h0 h (pre ++ (o ++ l)))
    (d dn s sn : Nat) (h1 : d + dn ≤ n) (h2 : s + sn ≤ n) (hK : ∀ h' o', Own h0 h' (pre ++ (o' ++ l)) → SlO f sz t a n c (copyV ks d s (Nat.min sn dn)) o' → K h') : cpM h sz (cutA a c d sz) dn (cutA a c s sz) sn K := by
  have hn := hs.1
  have hm1 : Nat.min sn dn ≤ dn := Nat.min_le_right _ _
  have hm2 : Nat.min sn dn ≤ sn := Nat.min_le_left _ _
  generalize hm : Nat.min sn dn = m at *
  rcases Nat.eq_zero_or_pos m with h0m | h0m
  · subst h0m
    have e : copyV ks d s 0 = ks := by unfold copyV; simp
    rw [e] at hK
    refine ⟨[], by rw [hm]; simp, rfl, ?_, ?_⟩
    · unfold srcAt
      split
      · rfl
      · trivial
    · split
      · exact hK h o ho hs
      · exact hK h o ho hs
  obtain ⟨_, ⟨_, h3, _, h4⟩ | ⟨b, cs, rest, rfl, rfl, hcs, hr, hle⟩⟩ := hs
  · rw [h4] at hn; simp at hn; omega
  have hfl := flat_len f hf
  have hcl : cs.size = ks.length * sz + rest.length := by rw [← Array.length_toList, hcs, List.length_append, hfl]
  have hb := (Own.mid (x := (b, cs, t)) (by simpa using ho)).1
  have hnew : (((ks.drop s).take m).flatMap f).length = m * sz := by
    rw [hfl]
    congr 1
    simp only [List.length_take, List.length_drop]
    omega
  have hdn : d * sz + m * sz ≤ ks.length * sz := by rw [← Nat.add_mul]; exact Nat.mul_le_mul_right _ (by omega)
  refine ⟨((ks.drop s).take m).flatMap f, by rw [hm]; exact hnew, oneV_flat f hf1 _, ?_, ?_⟩
  · unfold cutA
    rw [if_neg (by omega)]
    show cellsAt h ((⟨b, 0, none⟩ : Addr).add (s * sz)) 0 _
    rw [add0, Nat.zero_add]
    refine cellsAt_blk hb _ (s * sz) 0 fun j v hj => ?_
    rw [← Array.getElem?_toList, hcs, Nat.add_zero]
    have hj2 : j < m * sz := by rw [← hnew]; exact (List.getElem?_eq_some_iff.1 hj).1
    have hs2 : s * sz + m * sz ≤ ks.length * sz := by rw [← Nat.add_mul]; exact Nat.mul_le_mul_right _ (by omega)
    rw [List.getElem?_append_left (by rw [hfl]; omega)]
    rw [← flat_take f hf, ← flat_drop f hf, List.getElem?_take, if_pos hj2, List.getElem?_drop] at hj
    exact hj
  · unfold cutA
    rw [if_neg (by omega)]
    show stN ((⟨b, 0, none⟩ : Addr).add (d * sz)) _ 0 h K
    rw [add0, Nat.zero_add]
    refine stN_blk hb (show d * sz + 0 + (((ks.drop s).take m).flatMap f).length ≤ cs.size by rw [hnew]; omega) fun h3 hp3 => ?_
    refine hK h3 [(b, setL cs (d * sz + 0) (((ks.drop s).take m).flatMap f), t)] (Own.putAt (l := pre) (l2 := l) (by simpa using ho) hp3) ⟨by rw [copyV_len _ _ _ _ (by omega) (by omega)]; exact hn, .inr ⟨b, _, rest, rfl, rfl, ?_, hr, hle⟩⟩
    rw [Nat.add_zero, setL_toList _ _ _ (by rw [hnew]; omega), hnew, hcs, List.take_append_of_le_length (by rw [hfl]; omega), List.drop_append_of_le_length (by rw [hfl]; omega)]
    rw [show d * sz + m * sz = (d + m) * sz by rw [Nat.add_mul], flat_take f hf, flat_drop f hf]
    unfold copyV
    simp [List.flatMap_append]
theorem gf_one (g : Gl) : (gf g).all oneV = true := rfl
theorem rf_one (r : Option Addr × Nat × Nat) : (rf r).all oneV = true := rfl
end Go.Proofs.YthjdnhhifjpidaaGreatDoor.M
set_option maxRecDepth 100000
namespace Go.Proofs.YthjdnhhifjpidaaGreatDoor.M
open Go Go.Hp

theorem erased_o {h0 : Base} {h : Heap} {s : Nat} {cs : Array Value} {l : Blks} {bk : Int} {K : ByteArray → Int → Int → Int → Int → Heap → Prop} (ho : Own h0 h ((s, cs, 80) :: l)) (hc : cs[12]? = some (.int .i64 bk)) (hk : ∀ h1, Ext h h1 → K ⟨#[32]⟩ 1 0 bk 0 h1) : vt_Screen_erased (some ⟨s, 0, none⟩) K h := by
  unfold vt_Screen_erased
  refine newB_o (Own.init h) fun b h1 t1 => nz_i ?_
  have ho := ho.gap t1.ext
  simp only [add0, Nat.zero_add]
  refine ldI0 ho hc ?_
  refine gap_o t1 fun h2 t2 => ?_
  refine st0 t2 rfl fun h3 t3 => ?_
  refine ldS0 t3 rfl ?_
  refine ldI0 t3 rfl ?_
  refine ldI0 t3 rfl ?_
  refine ldI0 t3 rfl ?_
  refine ldI0 t3 rfl ?_
  exact hk h3 t3.ext
theorem SlO.srcDrop {α : Type} {f : α → List Value} {sz : Nat} {t : TypeId} {a : Option Addr} {n c : Nat} {ks : List α} {o pre l : Blks} {h0 : Base} {h : Heap} (hf : ∀ k, (f k).length = sz) (hs : SlO f sz t a n c ks o) (ho : Own h0 h (pre ++ (o ++ l))) (s : Nat) (h2 : s ≤ n) : srcAt h (cutA a c s sz) ((ks.drop s).flatMap f) := by
  have hn := hs.1
  by_cases hsn : s = n
  · rw [List.drop_of_length_le (by omega)]
    unfold srcAt
    split
    · rfl
    · trivial
  obtain ⟨_, ⟨_, h3, _, h4⟩ | ⟨b, cs, rest, rfl, rfl, hcs, hr, hle⟩⟩ := hs
  · rw [h4] at hn; simp at hn; omega
  unfold cutA
  rw [if_neg (by omega)]
  show cellsAt h ((⟨b, 0, none⟩ : Addr).add (s * sz)) 0 _
  rw [add0, Nat.zero_add]
  refine cellsAt_blk (Own.mid (x := (b, cs, t)) (by simpa using ho)).1 _ (s * sz) 0 fun j v hj => ?_
  rw [← Array.getElem?_toList, hcs, Nat.add_zero]
  rw [← flat_drop f hf, List.getElem?_drop] at hj
  rw [List.getElem?_append_left (List.getElem?_eq_some_iff.1 hj).1]
  exact hj
theorem RowsB.drop {ks R bs} (hr : RowsB ks R bs) (d : Nat) : RowsB (ks.drop d) (R.drop d) (bs.drop d) := by
  obtain ⟨h1, h2, h3⟩ := hr
  refine ⟨by simp [h1], by simp [h2], fun i hi => ?_⟩
  rw [List.length_drop] at hi
  have := h3 (d + i) (by omega)
  rw [List.getD_eq_getElem?_getD (l := ks.drop d), List.getElem?_drop, List.getD_eq_getElem?_getD (l := R.drop d), List.getElem?_drop, List.getD_eq_getElem?_getD (l := bs.drop d), List.getElem?_drop, ← List.getD_eq_getElem?_getD, ← List.getD_eq_getElem?_getD, ← List.getD_eq_getElem?_getD]
  exact this
/-- A row is laid into the history. -/
def keepV (S : Scr) (g : List Gl) : Scr := { S with past := if S.most < ((S.past.length + 1 : Nat) : Int) then (S.past ++ [g]).drop (((S.past.length + 1 : Nat) : Int) - S.most).toNat else S.past ++ [g] }
theorem keep_sp {h0 : Base} {h : Heap} {s : Nat} {S : Scr} {a : Option Addr} {n c : Nat} {g : List Gl} {K : Heap → Prop} (hs : Rep h0 h s S) (hg : g.length = n) (hsrc : srcAt h a (g.flatMap gf)) (hn : n ≤ 100000) (hp0 : S.past.length ≤ 100000) (hm0 : 0 ≤ S.most)
    (hk : ∀ h1, Rep h0 h1 s (keepV S g) → cellH h1 ⟨s, 3, none⟩ = cellH h ⟨s, 3, none⟩ → K h1) : vt_Screen_keep (some ⟨s, 0, none⟩) a n c K h := by
  obtain ⟨A, oM, oO, oP, oT, oG, oK, oL, ho, hp⟩ := hs
  obtain ⟨ks, oh, bs, rfl, q1, q2⟩ := hp.past
  have hq1 := q1.1
  have hq2 := q2.1
  unfold vt_Screen_keep
  unfold keepV at hk
  refine nz_i ?_
  simp only [add0, Nat.zero_add]
  refine ldL0 ho rfl ?_
  refine ⟨g.flatMap gf, by rw [flat_len gf gf_len, hg]; rfl, oneV_flat gf gf_one g, hsrc, ?_⟩
  rw [← hg]
  refine SlO.app (f := gf) (sz := 5) (js := g) (pre := []) gf_len rfl SlO.nil (by simpa using ho) (by omega) (by omega) fun a1 c1 o1 h1 ho1 hs1 => ?_
  have ho1 : Own h0 h1 ((s, scrC S A, 80) :: (oM ++ (oO ++ ((oh ++ bs.flatten) ++ (oT ++ (oG ++ (oK ++ (oL ++ o1)))))))) := ho1.perm (by exact pc)
  refine ⟨ho1.get0.cell 8 rfl, gap_o ho1 fun h2 ho2 => ⟨ho2.get0.cell 8 rfl, ?_⟩⟩
  refine SlO.app (f := rf) (sz := 1) (js := [(a1, g.length, c1)]) (pre := (s, scrC S A, 80) :: (oM ++ oO)) (l := bs.flatten ++ (oT ++ (oG ++ (oK ++ (oL ++ o1))))) rf_len rfl q1 (by simpa using ho2) (by simp only [List.length_singleton]; omega) (by simp only [List.length_singleton]; omega) fun a2 c2 o2 h3 ho3 hs3 => ?_
  have ho3 : Own h0 h3 ((s, scrC S A, 80) :: (oM ++ (oO ++ ((o2 ++ (bs ++ [o1]).flatten) ++ (oT ++ (oG ++ (oK ++ oL))))))) := by
    rw [List.flatten_append, List.flatten_singleton]
    exact ho3.perm (by exact pc)
  have hr3 : RowsB (ks ++ [(a1, g.length, c1)]) (S.past ++ [g]) (bs ++ [o1]) := q2.snoc _ _ _ (by simpa using hs1)
  refine st0 ho3 rfl fun h4 ho4 => ?_
  refine ldL0 ho4 rfl ?_
  refine ldI0 ho4 rfl ?_
  have en : A.pn = S.past.length := by omega
  by_cases hc : S.most < ((A.pn + 1 : Nat) : Int)
  · rw [if_pos (by omega)] at hk
    rw [if_pos hc]
    refine ldL0 ho4 rfl ?_
    refine ldL0 ho4 rfl ?_
    refine ldI0 ho4 rfl ?_
    rw [wrap64 (by omega) (by omega)]
    refine ⟨by omega, by omega, ?_⟩
    have hd : ((((A.pn + 1 : Nat) : Int)) - S.most).toNat = (((S.past.length + 1 : Nat) : Int) - S.most).toNat := by omega
    rw [hd]
    generalize hdd : (((S.past.length + 1 : Nat) : Int) - S.most).toNat = d at *
    have hoA : Own h0 h4 (((s, setL (scrC S A) 8 [Value.slice a2 (A.pn + 1) c2], 80) :: (oM ++ oO)) ++ (o2 ++ ((bs ++ [o1]).flatten ++ (oT ++ (oG ++ (oK ++ oL)))))) := by simpa using ho4
    have hsd := SlO.srcDrop rf_len hs3 hoA d (by simp only [List.length_singleton]; omega)
    have hks := hs3.1
    have ho4' : Own h0 h4 (([] : Blks) ++ (([] : Blks) ++ ((s, setL (scrC S A) 8 [Value.slice a2 (A.pn + 1) c2], 80) :: (oM ++ (oO ++ ((o2 ++ (bs ++ [o1]).flatten) ++ (oT ++ (oG ++ (oK ++ oL))))))))) := ho4
    have el : ((ks ++ [(a1, g.length, c1)]).drop d).length = A.pn + 1 - d := by rw [List.length_drop, ← hks]; rfl
    rw [← el]
    refine ⟨((ks ++ [(a1, g.length, c1)]).drop d).flatMap rf, by rw [flat_len rf rf_len]; rfl, oneV_flat rf rf_one _, hsd, ?_⟩
    refine SlO.app (f := rf) (sz := 1) (js := (ks ++ [(a1, g.length, c1)]).drop d) (pre := []) rf_len rfl SlO.nil ho4' (by rw [el]; omega) (by rw [el]; omega) fun a3 c3 o3 h5 ho5 hs5 => ?_
    have ho5 : Own h0 h5 ((s, setL (scrC S A) 8 [Value.slice a2 (A.pn + 1) c2], 80) :: (o2 ++ (((bs ++ [o1]).take d).flatten ++ (oM ++ (oO ++ ((o3 ++ ((bs ++ [o1]).drop d).flatten) ++ (oT ++ (oG ++ (oK ++ oL))))))))) := by
      have e : (bs ++ [o1]).flatten = ((bs ++ [o1]).take d).flatten ++ ((bs ++ [o1]).drop d).flatten := by rw [← List.flatten_append, List.take_append_drop]
      rw [e] at ho5
      exact ho5.perm (by exact pc)
    have ho6 := ho5.sub (l' := (s, setL (scrC S A) 8 [Value.slice a2 (A.pn + 1) c2], 80) :: (oM ++ (oO ++ ((o3 ++ ((bs ++ [o1]).drop d).flatten) ++ (oT ++ (oG ++ (oK ++ oL))))))) (List.Sublist.cons_cons _ ((List.sublist_append_right _ _).trans (List.sublist_append_right _ _)))
    refine st0 ho6 rfl fun h6 ho7 => ?_
    refine hk h6 ⟨{ A with p := a3, pn := ((ks ++ [(a1, g.length, c1)]).drop d).length, pc := c3 }, oM, oO, _, oT, oG, oK, oL, ho7, hp.1, hp.2, ⟨_, o3, _, rfl, ?_, hr3.drop d⟩, hp.4, hp.5, hp.6, hp.7⟩ ((ho7.get0.cell 3 rfl).trans (ho.get0.cell 3 rfl).symm)
    rw [List.nil_append, Nat.zero_add] at hs5
    exact hs5
  · rw [if_neg (by omega)] at hk
    rw [if_neg hc]
    exact hk h4 ⟨{ A with p := a2, pn := A.pn + 1, pc := c2 }, oM, oO, _, oT, oG, oK, oL, ho4, hp.1, hp.2, ⟨_, o2, _, rfl, hs3, hr3⟩, hp.4, hp.5, hp.6, hp.7⟩ ((ho4.get0.cell 3 rfl).trans (ho.get0.cell 3 rfl).symm)
end Go.Proofs.YthjdnhhifjpidaaGreatDoor.M
set_option maxRecDepth 100000
namespace Go.Proofs.YthjdnhhifjpidaaGreatDoor.M
open Go Go.Hp

/-! ### Rows go up: one is taken out, a new one put in further down -/
def shiftUp {α : Type} (xs : List α) (t b : Nat) (new : α) : List α := xs.take t ++ ((xs.drop (t + 1)).take (b - t) ++ (new :: xs.drop (b + 1)))
def shiftDown {α : Type} (xs : List α) (t b : Nat) (new : α) : List α := xs.take t ++ (new :: ((xs.drop t).take (b - t) ++ xs.drop (b + 1)))
theorem shiftUp_copy {α : Type} (xs : List α) (t b : Nat) (new : α) (h1 : t ≤ b) (h2 : b < xs.length) : (copyV xs t (t + 1) (b - t)).set b new = shiftUp xs t b new := by
  unfold copyV shiftUp
  have e : xs.drop (t + (b - t)) = xs[b] :: xs.drop (b + 1) := by rw [show t + (b - t) = b by omega, List.drop_eq_getElem_cons h2]
  rw [e, List.set_append_right _ _ (by rw [List.length_take]; omega), List.set_append_right _ _ (by simp only [List.length_take, List.length_drop]; omega)]
  simp only [List.length_take, List.length_drop]
  rw [show b - min t xs.length - min (b - t) (xs.length - (t + 1)) = 0 by omega, List.set_cons_zero]
theorem shiftDown_copy {α : Type} (xs : List α) (t b : Nat) (new : α) (h1 : t ≤ b) (h2 : b < xs.length) : (copyV xs (t + 1) t (b - t)).set t new = shiftDown xs t b new := by
  unfold copyV shiftDown
  have e : xs.take (t + 1) = xs.take t ++ [xs[t]] := by rw [List.take_add_one, List.getElem?_eq_getElem (by omega)]; rfl
  rw [e, List.append_assoc, List.set_append_right _ _ (by rw [List.length_take]; omega)]
  simp only [List.length_take]
  rw [show t - min t xs.length = 0 by omega, List.singleton_append, List.set_cons_zero, show t + 1 + (b - t) = b + 1 by omega]
theorem RowsB.take {ks R bs} (hr : RowsB ks R bs) (d : Nat) : RowsB (ks.take d) (R.take d) (bs.take d) := by
  obtain ⟨h1, h2, h3⟩ := hr
  refine ⟨by simp [h1], by simp [h2], fun i hi => ?_⟩
  rw [List.length_take] at hi
  have := h3 i (by omega)
  rw [List.getD_eq_getElem?_getD (l := ks.take d), List.getElem?_take, if_pos (by omega), List.getD_eq_getElem?_getD (l := R.take d), List.getElem?_take, if_pos (by omega), List.getD_eq_getElem?_getD (l := bs.take d), List.getElem?_take, if_pos (by omega), ← List.getD_eq_getElem?_getD, ← List.getD_eq_getElem?_getD, ← List.getD_eq_getElem?_getD]
  exact this
theorem RowsB.append {ks R bs ks' R' bs'} (hr : RowsB ks R bs) (hr' : RowsB ks' R' bs') : RowsB (ks ++ ks') (R ++ R') (bs ++ bs') := by
  obtain ⟨h1, h2, h3⟩ := hr
  obtain ⟨h1', h2', h3'⟩ := hr'
  refine ⟨by simp [h1, h1'], by simp [h2, h2'], fun i hi => ?_⟩
  rw [List.length_append] at hi
  by_cases hii : i < R.length
  · rw [List.getD_eq_getElem?_getD (l := ks ++ ks'), List.getElem?_append_left (by omega), List.getD_eq_getElem?_getD (l := R ++ R'), List.getElem?_append_left hii, List.getD_eq_getElem?_getD (l := bs ++ bs'), List.getElem?_append_left (by omega), ← List.getD_eq_getElem?_getD, ← List.getD_eq_getElem?_getD, ← List.getD_eq_getElem?_getD]
    exact h3 i hii
  · rw [List.getD_eq_getElem?_getD (l := ks ++ ks'), List.getElem?_append_right (by omega), List.getD_eq_getElem?_getD (l := R ++ R'), List.getElem?_append_right (by omega), List.getD_eq_getElem?_getD (l := bs ++ bs'), List.getElem?_append_right (by omega), h1, h2, ← List.getD_eq_getElem?_getD, ← List.getD_eq_getElem?_getD, ← List.getD_eq_getElem?_getD]
    exact h3' (i - R.length) (by omega)
theorem RowsB.one {k : Option Addr × Nat × Nat} {g : List Gl} {b : Blks} (hs : SlO gf 5 52 k.1 k.2.1 k.2.2 g b) : RowsB [k] [g] [b] := by
  refine ⟨rfl, rfl, fun i hi => ?_⟩
  obtain rfl : i = 0 := by simpa using hi
  exact hs
theorem RowsB.up {ks R bs} (hr : RowsB ks R bs) (t b : Nat) {k : Option Addr × Nat × Nat} {g : List Gl} {o : Blks} (hs : SlO gf 5 52 k.1 k.2.1 k.2.2 g o) : RowsB (shiftUp ks t b k) (shiftUp R t b g) (shiftUp bs t b o) :=
  (hr.take t).append (((hr.drop (t + 1)).take (b - t)).append ((RowsB.one hs).append (hr.drop (b + 1))))
theorem RowsB.down {ks R bs} (hr : RowsB ks R bs) (t b : Nat) {k : Option Addr × Nat × Nat} {g : List Gl} {o : Blks} (hs : SlO gf 5 52 k.1 k.2.1 k.2.2 g o) : RowsB (shiftDown ks t b k) (shiftDown R t b g) (shiftDown bs t b o) :=
  (hr.take t).append ((RowsB.one hs).append (((hr.drop t).take (b - t)).append (hr.drop (b + 1))))
theorem up_own {h0 : Base} {h : Heap} {x : Nat × Array Value × TypeId} {oh o l : Blks} {bs : List Blks} (t b : Nat) (h1 : t ≤ b) (h2 : b < bs.length) (ho : Own h0 h (o ++ (x :: (oh ++ (bs.flatten ++ l))))) : Own h0 h (x :: (oh ++ ((shiftUp bs t b o).flatten ++ l))) := by
  have e : bs.flatten = (bs.take t).flatten ++ (bs.getD t [] ++ (((bs.drop (t + 1)).take (b - t)).flatten ++ (bs.drop (b + 1)).flatten)) := by
    rw [fl_split bs t (by omega)]
    congr 2
    have e2 : (bs.drop (t + 1)).drop (b - t) = bs.drop (b + 1) := by rw [List.drop_drop]; congr 1; omega
    rw [← e2, ← List.flatten_append, List.take_append_drop]
  rw [e] at ho
  have ho2 := ho.perm (l' := bs.getD t [] ++ (x :: (oh ++ (((bs.take t).flatten ++ (((bs.drop (t + 1)).take (b - t)).flatten ++ (o ++ (bs.drop (b + 1)).flatten))) ++ l)))) (by exact pc)
  have ho3 := ho2.sub (List.sublist_append_right _ _)
  unfold shiftUp
  rw [List.flatten_append, List.flatten_append, List.flatten_cons]
  exact ho3
theorem down_own {h0 : Base} {h : Heap} {x : Nat × Array Value × TypeId} {oh o l : Blks} {bs : List Blks} (t b : Nat) (h1 : t ≤ b) (h2 : b < bs.length) (ho : Own h0 h (o ++ (x :: (oh ++ (bs.flatten ++ l))))) : Own h0 h (x :: (oh ++ ((shiftDown bs t b o).flatten ++ l))) := by
  have e : bs.flatten = (bs.take t).flatten ++ (((bs.drop t).take (b - t)).flatten ++ (bs.getD b [] ++ (bs.drop (b + 1)).flatten)) := by
    have e2 : bs.take b = bs.take t ++ (bs.drop t).take (b - t) := by
      conv => lhs; rw [show b = t + (b - t) by omega, List.take_add]
    rw [fl_split bs b h2, e2, List.flatten_append, List.append_assoc]
  rw [e] at ho
  have ho2 := ho.perm (l' := bs.getD b [] ++ (x :: (oh ++ (((bs.take t).flatten ++ (o ++ (((bs.drop t).take (b - t)).flatten ++ (bs.drop (b + 1)).flatten))) ++ l)))) (by exact pc)
  have ho3 := ho2.sub (List.sublist_append_right _ _)
  unfold shiftDown
  rw [List.flatten_append, List.flatten_cons, List.flatten_append]
  exact ho3
theorem up_j1_sp {Kn : Addr → Int → Int → Bool → Option Addr → Nat → Nat → Int → Int → Heap → Prop} {h0 : Base} {h : Heap} {s : Nat} {cs : Array Value} {oh l : Blks} {bs : List Blks} {ks R} {a : Option Addr} {n c : Nat} {p : Addr} {w bk : Int} {t b y43 y44 : Int} {y41 : Bool}
    (ho : Own h0 h ((s, cs, 80) :: (oh ++ (bs.flatten ++ l)))) (hc0 : cs[0]? = some (.int .i64 w)) (hc12 : cs[12]? = some (.int .i64 bk)) (hH : SlO rf 1 81 a n c ks oh) (hR : RowsB ks R bs) (hp : a = some p) (t0 : 0 ≤ t) (tb : t ≤ b) (bn : b < n) (hn : n ≤ 100000) (hcn : n ≤ c) (w0 : 0 ≤ w) (w1 : w ≤ 100000)
    (hk : ∀ h' ks' oh' bs', Own h0 h' ((s, cs, 80) :: (oh' ++ (bs'.flatten ++ l))) → SlO rf 1 81 a n c ks' oh' → RowsB ks' (shiftUp R t.toNat b.toNat (List.replicate w.toNat (blankG 0 bk 0))) bs' → Kn ⟨s, 0, none⟩ t b y41 a n c y43 y44 h') : vt_Screen_up_j1 Kn (some ⟨s, 0, none⟩) t b y41 a n c y43 y44 h := by
  have hks := hH.1
  have hkb := hR.1
  have hbb := hR.2.1
  unfold vt_Screen_up_j1
  rw [wrap64 (x := b + 1) (by omega) (by omega), wrap64 (x := t + 1) (by omega) (by omega)]
  refine ⟨by omega, by omega, by omega, by omega, by omega, by omega, by omega, by omega, ?_⟩
  rw [show (t + 1).toNat = t.toNat + 1 by omega, show (b + 1).toNat = b.toNat + 1 by omega]
  have hoA : Own h0 h ([(s, cs, 80)] ++ (oh ++ (bs.flatten ++ l))) := ho
  refine SlO.copy rf_len rf_one hH hoA t.toNat (b.toNat - t.toNat) (t.toNat + 1) (b.toNat + 1 - (t.toNat + 1)) (by omega) (by omega) fun h1 o1 ho1 hs1 => ?_
  have hmin : Nat.min (b.toNat + 1 - (t.toNat + 1)) (b.toNat - t.toNat) = b.toNat - t.toNat := by
    rw [show b.toNat + 1 - (t.toNat + 1) = b.toNat - t.toNat by omega]
    exact Nat.min_self _
  rw [hmin] at hs1
  have ho1 : Own h0 h1 ((s, cs, 80) :: (o1 ++ (bs.flatten ++ l))) := ho1
  refine nz_i ?_
  refine ldI0 ho1 hc0 ?_
  refine erased_o ho1 hc12 fun h2 he2 => ?_
  have ho2 := ho1.gap he2
  refine ⟨ho2.get0.cell 0 hc0, fresh_sp ho2 w0 w1 fun ra ro h3 ho3 hrow => ?_⟩
  rw [hp]
  refine nz_i ⟨by omega, by omega, ?_⟩
  have ho3A : Own h0 h3 ((ro ++ [(s, cs, 80)]) ++ (o1 ++ (bs.flatten ++ l))) := by simpa using ho3
  refine SlO.set rf_len hs1 ho3A b.toNat (ra, w.toNat, w.toNat) (by omega) hp fun h4 o4 ho4 hs4 => ?_
  have ho4 : Own h0 h4 (ro ++ ((s, cs, 80) :: (o4 ++ (bs.flatten ++ l)))) := by simpa using ho4
  rw [shiftUp_copy ks t.toNat b.toNat _ (by omega) (by omega)] at hs4
  rw [← hp]
  exact hk h4 _ o4 _ (up_own t.toNat b.toNat (by omega) (by omega) ho4) hs4 (hR.up t.toNat b.toNat hrow)
end Go.Proofs.YthjdnhhifjpidaaGreatDoor.M
set_option maxRecDepth 100000
namespace Go.Proofs.YthjdnhhifjpidaaGreatDoor.M
open Go Go.Hp

/-- What a screen keeps to. -/
structure Dim (S : Scr) : Prop where
  w0 : 1 ≤ S.w
  w1 : S.w ≤ 1000
  h0 : 1 ≤ S.h
  h1 : S.h ≤ 1000
  m0 : 0 ≤ S.most
  m1 : S.most ≤ 2000
  past : (S.past.length : Int) ≤ S.most
  main : (S.main.length : Int) = S.h ∧ ∀ g ∈ S.main, (g.length : Int) = S.w
  other : S.alt = true → (S.other.length : Int) = S.h ∧ ∀ g ∈ S.other, (g.length : Int) = S.w
theorem Dim.sh {S : Scr} (d : Dim S) : (S.sh.length : Int) = S.h ∧ ∀ g ∈ S.sh, (g.length : Int) = S.w := by
  unfold Scr.sh
  split
  · rename_i ha; exact d.other ha
  · exact d.main
theorem Dim.setSh {S : Scr} (d : Dim S) {R : List (List Gl)} (h1 : (R.length : Int) = S.h) (h2 : ∀ g ∈ R, (g.length : Int) = S.w) : Dim (S.setSh R) := by
  unfold Scr.setSh
  split
  · exact ⟨d.w0, d.w1, d.h0, d.h1, d.m0, d.m1, d.past, d.main, fun _ => ⟨h1, h2⟩⟩
  · rename_i ha; exact ⟨d.w0, d.w1, d.h0, d.h1, d.m0, d.m1, d.past, ⟨h1, h2⟩, fun hh => absurd hh ha⟩
theorem Dim.keep {S : Scr} (d : Dim S) (g : List Gl) : Dim (keepV S g) := by
  have hp := d.past
  have h0 := d.m0
  refine ⟨d.w0, d.w1, d.h0, d.h1, d.m0, d.m1, ?_, d.main, d.other⟩
  show (((if S.most < ((S.past.length + 1 : Nat) : Int) then (S.past ++ [g]).drop (((S.past.length + 1 : Nat) : Int) - S.most).toNat else S.past ++ [g]) : List (List Gl)).length : Int) ≤ S.most
  split
  · rw [List.length_drop, List.length_append, List.length_singleton]; omega
  · rw [List.length_append, List.length_singleton]; omega
theorem mem_shiftUp {α : Type} {xs : List α} {t b : Nat} {new x : α} (h : x ∈ shiftUp xs t b new) : x ∈ xs ∨ x = new := by
  unfold shiftUp at h
  simp only [List.mem_append, List.mem_cons] at h
  rcases h with h | h | h | h
  · exact .inl (List.mem_of_mem_take h)
  · exact .inl (List.mem_of_mem_drop (List.mem_of_mem_take h))
  · exact .inr h
  · exact .inl (List.mem_of_mem_drop h)
theorem shiftUp_len {α : Type} {xs : List α} {t b : Nat} {new : α} (h1 : t ≤ b) (h2 : b < xs.length) : (shiftUp xs t b new).length = xs.length := by
  unfold shiftUp
  simp only [List.length_append, List.length_cons, List.length_take, List.length_drop]
  omega
def emptyRow (S : Scr) : List Gl := List.replicate S.w.toNat (blankG 0 S.pl.back 0)
def upOne (S : Scr) (t b : Int) : Scr := S.setSh (shiftUp S.sh t.toNat b.toNat (emptyRow S))
def keepOne (S : Scr) (t : Int) (keeps : Bool) : Scr := if (keeps && decide (t = 0)) = true then if S.alt = true then S else keepV S (S.sh.getD 0 []) else S
def upL (t b : Int) (keeps : Bool) : Nat → Scr → Scr
  | 0, S => S
  | n + 1, S => upL t b keeps n (upOne (keepOne S t keeps) t b)
theorem setSh_w (S : Scr) (R) : (S.setSh R).w = S.w ∧ (S.setSh R).alt = S.alt ∧ (S.setSh R).h = S.h := by
  unfold Scr.setSh
  split <;> exact ⟨rfl, rfl, rfl⟩
theorem Dim.upOne {S : Scr} (d : Dim S) {t b : Int} (t0 : 0 ≤ t) (tb : t ≤ b) (bh : b < S.h) : Dim (upOne S t b) := by
  have hs := d.sh
  have w0 := d.w0
  refine d.setSh ?_ fun g hg => ?_
  · rw [shiftUp_len (by omega) (by omega)]; exact hs.1
  · rcases mem_shiftUp hg with h | h
    · exact hs.2 g h
    · rw [h]; unfold emptyRow; rw [List.length_replicate]; omega
theorem Dim.keepOne {S : Scr} (d : Dim S) (t : Int) (k : Bool) : Dim (keepOne S t k) := by
  unfold M.keepOne
  split
  · split
    · exact d
    · exact d.keep _
  · exact d
theorem keepOne_w (S : Scr) (t : Int) (k : Bool) : (keepOne S t k).w = S.w ∧ (keepOne S t k).alt = S.alt ∧ (keepOne S t k).h = S.h ∧ (keepOne S t k).sh = S.sh := by
  unfold keepOne
  split
  · split
    · exact ⟨rfl, rfl, rfl, rfl⟩
    · exact ⟨rfl, rfl, rfl, rfl⟩
  · exact ⟨rfl, rfl, rfl, rfl⟩
theorem cell_inv {h : Heap} {b : Nat} {cs : Array Value} {t : TypeId} {k : Nat} {v : Value} (hb : Blk h b cs t) (hc : cellH h ⟨b, k, none⟩ = some v) : cs[k]? = some v := by
  unfold cellH at hc
  rw [show h[(⟨b, k, none⟩ : Addr).block]? = _ from hb] at hc
  exact hc
/-- One round of up, where the history has been seen to. -/
theorem up_round {Kn : Addr → Int → Int → Bool → Option Addr → Nat → Nat → Int → Int → Heap → Prop} {h0 : Base} {h : Heap} {s : Nat} {S : Scr} {a : Option Addr} {n c : Nat} {t b y43 y44 : Int} {y41 : Bool} (hs : Rep h0 h s S) (d : Dim S) (hc : cellH h (shA S s) = some (.slice a n c)) (t0 : 0 ≤ t) (tb : t ≤ b) (bh : b < S.h)
    (hk : ∀ h', Rep h0 h' s (upOne S t b) → cellH h' (shA S s) = some (.slice a n c) → Kn ⟨s, 0, none⟩ t b y41 a n c y43 y44 h') : vt_Screen_up_j1 Kn (some ⟨s, 0, none⟩) t b y41 a n c y43 y44 h := by
  obtain ⟨A, a', n', c', ks, oh, bs, l, ho, hc', h1, h2, h3⟩ := hs.focus
  obtain ⟨rfl, rfl, rfl⟩ : a = a' ∧ n = n' ∧ c = c' := by
    rw [hc] at hc'
    simpa using hc'
  have hn := h1.1
  have hk2 := h2.1
  have hsh := d.sh
  have hh := d.h1
  have hw0 := d.w0
  have hw1 := d.w1
  obtain ⟨p, hp, _⟩ := SlO.get rf_len h1 (pre := [(s, scrC S A, 80)]) (l := bs.flatten ++ l) ho b.toNat (none, 0, 0) (by omega)
  have hcn : n ≤ c := by
    obtain ⟨_, ⟨_, e2, _, _⟩ | ⟨_, _, _, _, _, _, _, hle⟩⟩ := h1
    · rw [e2] at hp; cases hp
    · exact hle
  have hcell : ∀ h', Blk h' s (scrC S A) 80 → cellH h' (shA S s) = some (.slice a n c) := by
    intro h' hb
    unfold shA at hc ⊢
    split
    · rename_i ha; rw [if_pos ha] at hc; exact hb.cell 5 (cell_inv ho.get0 hc)
    · rename_i ha; rw [if_neg ha] at hc; exact hb.cell 3 (cell_inv ho.get0 hc)
  refine up_j1_sp (w := S.w) (bk := S.pl.back) ho rfl rfl h1 h2 hp t0 tb (by omega) (by omega) hcn (by omega) (by omega) fun h' ks' oh' bs' ho' hs' hr' => ?_
  exact hk h' (h3 h' ks' oh' bs' _ ho' hs' hr') (hcell h' ho'.get0)
end Go.Proofs.YthjdnhhifjpidaaGreatDoor.M
set_option maxRecDepth 100000
namespace Go.Proofs.YthjdnhhifjpidaaGreatDoor.M
open Go Go.Hp

theorem shA_alt {S S' : Scr} {s : Nat} (h : S'.alt = S.alt) : shA S' s = shA S s := by unfold shA; rw [h]
theorem upOne_w (S : Scr) (t b : Int) : (upOne S t b).w = S.w ∧ (upOne S t b).alt = S.alt ∧ (upOne S t b).h = S.h := setSh_w S _
theorem up_l0 {h0 : Base} {s : Nat} {t b m : Int} {keeps : Bool} {a : Option Addr} {n c : Nat} {K0 : Heap → Prop} (t0 : 0 ≤ t) (tb : t ≤ b) (hm : m ≤ 100000) :
    ∀ (q : Nat) (S : Scr) (h : Heap) (i : Int), Rep h0 h s S → Dim S → cellH h (shA S s) = some (.slice a n c) → b < S.h → 0 ≤ i → (m - i).toNat = q →
      (∀ h1, Rep h0 h1 s (upL t b keeps q S) → K0 h1) → vt_Screen_up_l0 K0 (q + 1) (some ⟨s, 0, none⟩) t b keeps a n c m i h := by
  intro q
  induction q with
  | zero =>
    intro S h i hs d hc bh hi hq hk
    unfold vt_Screen_up_l0
    rw [if_neg (by omega)]
    exact hk h hs
  | succ q ih =>
    intro S h i hs d hc bh hi hq hk
    have next : ∀ h' S', Rep h0 h' s S' → S' = keepOne S t keeps → cellH h' (shA S s) = some (.slice a n c) → vt_Screen_up_j1
     (fun z103 z104 z105 z106 z107 z107n z107c z108 z109 h110 =>
         vt_Screen_up_l0 K0 (q + 1) (some z103) z104 z105 z106 z107 z107n z107c z108 (IntKind.wrap .i64 (z109 + 1)) h110) (some ⟨s, 0, none⟩) t b keeps a n c m i h' := by
      intro h' S' hs' he hc'
      subst he
      have hw := keepOne_w S t keeps
      have d' := d.keepOne t keeps
      have ha := shA_alt (s := s) hw.2.1
      refine up_round hs' d' (by rw [ha]; exact hc') t0 tb (by rw [hw.2.2.1]; exact bh) fun h2 hs2 hc2 => ?_
      rw [wrap64 (by omega) (by omega)]
      have hu := upOne_w (keepOne S t keeps) t b
      have d2 : Dim (upOne (keepOne S t keeps) t b) := d'.upOne t0 tb (by rw [hw.2.2.1]; exact bh)
      refine ih _ h2 (i + 1) hs2 d2 ?_ (by rw [hu.2.2, hw.2.2.1]; exact bh) (by omega) (by omega) hk
      rw [shA_alt (S := keepOne S t keeps) hu.2.1]
      exact hc2
    unfold vt_Screen_up_l0
    rw [if_pos (by omega)]
    unfold keepOne at next
    by_cases hkt : (keeps && decide (t = 0)) = true
    · rw [if_pos hkt]
      simp only [if_pos hkt] at next
      have hs0 := hs
      obtain ⟨A, oM, oO, oP, oT, oG, oK, oL, ho, hp⟩ := hs
      refine nz_i ?_
      simp only [add0, Nat.zero_add]
      repeat (first | ((with_reducible apply newB_o); (with_reducible assumption); intro _ _ _) | ((with_reducible apply st0); (with_reducible assumption); rfl; intro _ _) | ((with_reducible apply ldI0); (with_reducible assumption); rfl) | ((with_reducible apply ldB0); (with_reducible assumption); rfl) | ((with_reducible apply ldS0); (with_reducible assumption); rfl) | (with_reducible apply nz_i))
      by_cases ha : S.alt = true
      · rw [ha]
        simp only [if_pos ha] at next
        exact next h S hs0 rfl hc
      · simp only [if_neg ha] at next
        rw [if_pos (by simpa using ha)]
        have hsh := d.sh
        have hh0 := d.h0
        have hw0 := d.w0
        have hw1 := d.w1
        have hm1 := d.m1
        have hpp := d.past
        obtain ⟨A', rs, rn, rc, p, a', n', c', o, l, ho', hc', hp', hn', hd', hs', -⟩ := hs0.row 0 (by omega)
        rw [hc] at hc'
        obtain ⟨rfl, rfl, rfl⟩ : a = rs ∧ n = rn ∧ c = rc := by simpa using hc'
        subst hp'
        refine nz_i ⟨by omega, by omega, ⟨_, _, _, hd', ?_⟩⟩
        have hoA : Own h0 h ([(s, scrC S A', 80)] ++ (o ++ l)) := ho'
        have hl := hs'.1
        have hmem : S.sh.getD 0 [] ∈ S.sh := by
          rw [List.getD_eq_getElem?_getD, List.getElem?_eq_getElem (by omega)]
          exact List.getElem_mem _
        have hlen := hsh.2 _ hmem
        refine keep_sp (g := S.sh.getD 0 []) hs0 (by omega) (SlO.srcAt hs' hoA) (by omega) (by omega) d.m0 fun h1 hs1 hc1 => ?_
        refine next h1 _ hs1 rfl ?_
        have e : shA S s = ⟨s, 3, none⟩ := by unfold shA; rw [if_neg ha]
        rw [e] at hc ⊢
        rw [hc1]
        exact hc
    · rw [if_neg hkt]
      simp only [if_neg hkt] at next
      exact next h S hs rfl hc
def upV (S : Scr) (t b n : Int) (keeps : Bool) : Scr := upL t b keeps (imin n (b - t + 1)).toNat S
theorem imin_le1 (a b : Int) : imin a b ≤ a := by unfold imin; split <;> omega
theorem imin_le2 (a b : Int) : imin a b ≤ b := by unfold imin; split <;> omega
theorem Rep.shcell {h0 : Base} {h : Heap} {s : Nat} {S : Scr} (hs : Rep h0 h s S) : ∃ a n c, cellH h (shA S s) = some (.slice a n c) := by
  obtain ⟨A, a', n', c', ks, oh, bs, l, ho, hc', h1, h2, h3⟩ := hs.focus
  exact ⟨_, _, _, hc'⟩
theorem up_sp {h0 : Base} {h : Heap} {s : Nat} {S : Scr} {t b n : Int} {keeps : Bool} {K : Heap → Prop} (hs : Rep h0 h s S) (d : Dim S) (t0 : 0 ≤ t) (tb : t ≤ b) (bh : b < S.h) (hk : ∀ h1, Rep h0 h1 s (upV S t b n keeps) → K h1) : vt_Screen_up (some ⟨s, 0, none⟩) t b n keeps K h := by
  have hh := d.h1
  obtain ⟨a, n', c, hc⟩ := hs.shcell
  unfold vt_Screen_up
  have hm := imin_le2 n (b - t + 1)
  have rest : ∀ q : Addr, shA S s = q → nz (some q) fun p8 => ldL h p8 fun x9 x9n x9c => ∃ k125, vt_Screen_up_l0 (fun h123 => K h123) k125 (some ⟨s, 0, none⟩) t b keeps x9 x9n x9c (imin n (IntKind.wrap .i64 ((IntKind.wrap .i64 (b - t)) + 1))) 0 h := by
    intro q hq
    rw [hq] at hc
    refine nz_i ⟨_, _, _, hc, (imin n (b - t + 1)).toNat + 1, ?_⟩
    rw [← hq] at hc
    rw [wrap64 (x := b - t) (by omega) (by omega), wrap64 (by omega) (by omega)]
    exact up_l0 t0 tb (by omega) _ S h 0 hs d hc bh (by omega) (by omega) hk
  refine shown_sp hs (fun ha => ?_) (fun ha => ?_)
  · exact rest _ (by unfold shA; rw [if_pos ha])
  · exact rest _ (by unfold shA; rw [if_neg (by rw [ha]; decide)])

/-! ### Rows go down -/
def downOne (S : Scr) (t b : Int) : Scr := S.setSh (shiftDown S.sh t.toNat b.toNat (emptyRow S))
def downL (t b : Int) : Nat → Scr → Scr
  | 0, S => S
  | n + 1, S => downL t b n (downOne S t b)
theorem downOne_w (S : Scr) (t b : Int) : (downOne S t b).w = S.w ∧ (downOne S t b).alt = S.alt ∧ (downOne S t b).h = S.h := setSh_w S _
theorem mem_shiftDown {α : Type} {xs : List α} {t b : Nat} {new x : α} (h : x ∈ shiftDown xs t b new) : x ∈ xs ∨ x = new := by
  unfold shiftDown at h
  simp only [List.mem_append, List.mem_cons] at h
  rcases h with h | h | h | h
  · exact .inl (List.mem_of_mem_take h)
  · exact .inr h
  · exact .inl (List.mem_of_mem_drop (List.mem_of_mem_take h))
  · exact .inl (List.mem_of_mem_drop h)
theorem shiftDown_len {α : Type} {xs : List α} {t b : Nat} {new : α} (h1 : t ≤ b) (h2 : b < xs.length) : (shiftDown xs t b new).length = xs.length := by
  unfold shiftDown
  simp only [List.length_append, List.length_cons, List.length_take, List.length_drop]
  omega
theorem Dim.downOne {S : Scr} (d : Dim S) {t b : Int} (t0 : 0 ≤ t) (tb : t ≤ b) (bh : b < S.h) : Dim (downOne S t b) := by
  have hs := d.sh
  have w0 := d.w0
  refine d.setSh ?_ fun g hg => ?_
  · rw [shiftDown_len (by omega) (by omega)]; exact hs.1
  · rcases mem_shiftDown hg with h | h
    · exact hs.2 g h
    · rw [h]; unfold emptyRow; rw [List.length_replicate]; omega
theorem down_l0 {h0 : Base} {s : Nat} {t b m : Int} {a : Option Addr} {n c : Nat} {K0 : Heap → Prop} (t0 : 0 ≤ t) (tb : t ≤ b) (hm : m ≤ 100000) :
    ∀ (q : Nat) (S : Scr) (h : Heap) (i : Int), Rep h0 h s S → Dim S → cellH h (shA S s) = some (.slice a n c) → b < S.h → 0 ≤ i → (m - i).toNat = q →
      (∀ h1, Rep h0 h1 s (downL t b q S) → K0 h1) → vt_Screen_down_l0 K0 (q + 1) (some ⟨s, 0, none⟩) t b a n c m i h := by
  intro q
  induction q with
  | zero =>
    intro S h i hs d hc bh hi hq hk
    unfold vt_Screen_down_l0
    rw [if_neg (by omega)]
    exact hk h hs
  | succ q ih =>
    intro S h i hs d hc bh hi hq hk
    unfold vt_Screen_down_l0
    rw [if_pos (by omega)]
    obtain ⟨A, a', n', c', ks, oh, bs, l, ho, hc', h1, h2, h3⟩ := hs.focus
    obtain ⟨rfl, rfl, rfl⟩ : a = a' ∧ n = n' ∧ c = c' := by
      rw [hc] at hc'
      simpa using hc'
    have hks := h1.1
    have hkb := h2.1
    have hbb := h2.2.1
    have hsh := d.sh
    have hh := d.h1
    have hw0 := d.w0
    have hw1 := d.w1
    have hoA : Own h0 h ([(s, scrC S A, 80)] ++ (oh ++ (bs.flatten ++ l))) := ho
    obtain ⟨p, hp, _⟩ := SlO.get rf_len h1 hoA b.toNat (none, 0, 0) (by omega)
    have hcn : n ≤ c := by
      obtain ⟨_, ⟨_, e2, _, _⟩ | ⟨_, _, _, _, _, _, _, hle⟩⟩ := h1
      · rw [e2] at hp; cases hp
      · exact hle
    rw [wrap64 (x := b + 1) (by omega) (by omega), wrap64 (x := t + 1) (by omega) (by omega)]
    refine ⟨by omega, by omega, by omega, by omega, by omega, by omega, by omega, by omega, ?_⟩
    rw [show (t + 1).toNat = t.toNat + 1 by omega, show (b + 1).toNat = b.toNat + 1 by omega]
    refine SlO.copy rf_len rf_one h1 hoA (t.toNat + 1) (b.toNat + 1 - (t.toNat + 1)) t.toNat (b.toNat - t.toNat) (by omega) (by omega) fun h1' o1 ho1 hs1 => ?_
    have hmin : Nat.min (b.toNat - t.toNat) (b.toNat + 1 - (t.toNat + 1)) = b.toNat - t.toNat := by
      rw [show b.toNat + 1 - (t.toNat + 1) = b.toNat - t.toNat by omega]
      exact Nat.min_self _
    rw [hmin] at hs1
    have ho1 : Own h0 h1' ((s, scrC S A, 80) :: (o1 ++ (bs.flatten ++ l))) := ho1
    refine nz_i ?_
    refine ldI0 ho1 rfl ?_
    refine erased_o ho1 rfl fun h2' he2 => ?_
    have ho2 := ho1.gap he2
    refine ⟨ho2.get0.cell 0 rfl, fresh_sp ho2 (by omega) (by omega) fun ra ro h3' ho3 hrow => ?_⟩
    rw [hp]
    refine nz_i ⟨by omega, by omega, ?_⟩
    have ho3A : Own h0 h3' ((ro ++ [(s, scrC S A, 80)]) ++ (o1 ++ (bs.flatten ++ l))) := by simpa using ho3
    refine SlO.set rf_len hs1 ho3A t.toNat (ra, S.w.toNat, S.w.toNat) (by omega) hp fun h4 o4 ho4 hs4 => ?_
    have ho4 : Own h0 h4 (ro ++ ((s, scrC S A, 80) :: (o4 ++ (bs.flatten ++ l)))) := by simpa using ho4
    rw [shiftDown_copy ks t.toNat b.toNat _ (by omega) (by omega)] at hs4
    rw [← hp, wrap64 (by omega) (by omega)]
    have ho5 := down_own t.toNat b.toNat (by omega) (by omega) ho4
    have hr5 := h3 h4 _ o4 _ _ ho5 hs4 (h2.down t.toNat b.toNat hrow)
    have hu := downOne_w S t b
    have d2 : Dim (downOne S t b) := d.downOne t0 tb bh
    refine ih (downOne S t b) h4 (i + 1) hr5 d2 ?_ (by rw [hu.2.2]; exact bh) (by omega) (by omega) hk
    rw [shA_alt (S := S) hu.2.1]
    unfold shA at hc ⊢
    split
    · rename_i ha; rw [if_pos ha] at hc; exact ho5.get0.cell 5 (cell_inv ho.get0 hc)
    · rename_i ha; rw [if_neg ha] at hc; exact ho5.get0.cell 3 (cell_inv ho.get0 hc)
def downV (S : Scr) (t b n : Int) : Scr := downL t b (imin n (b - t + 1)).toNat S
theorem down_sp {h0 : Base} {h : Heap} {s : Nat} {S : Scr} {t b n : Int} {K : Heap → Prop} (hs : Rep h0 h s S) (d : Dim S) (t0 : 0 ≤ t) (tb : t ≤ b) (bh : b < S.h) (hk : ∀ h1, Rep h0 h1 s (downV S t b n) → K h1) : vt_Screen_down (some ⟨s, 0, none⟩) t b n K h := by
  have hh := d.h1
  obtain ⟨a, n', c, hc⟩ := hs.shcell
  unfold vt_Screen_down
  have hm := imin_le2 n (b - t + 1)
  have rest : ∀ q : Addr, shA S s = q → nz (some q) fun p8 => ldL h p8 fun x9 x9n x9c => ∃ k125, vt_Screen_down_l0 (fun h123 => K h123) k125 (some ⟨s, 0, none⟩) t b x9 x9n x9c (imin n (IntKind.wrap .i64 ((IntKind.wrap .i64 (b - t)) + 1))) 0 h := by
    intro q hq
    rw [hq] at hc
    refine nz_i ⟨_, _, _, hc, (imin n (b - t + 1)).toNat + 1, ?_⟩
    rw [← hq] at hc
    rw [wrap64 (x := b - t) (by omega) (by omega), wrap64 (by omega) (by omega)]
    exact down_l0 t0 tb (by omega) _ S h 0 hs d hc bh (by omega) (by omega) hk
  refine shown_sp hs (fun ha => ?_) (fun ha => ?_)
  · exact rest _ (by unfold shA; rw [if_pos ha])
  · exact rest _ (by unfold shA; rw [if_neg (by rw [ha]; decide)])
end Go.Proofs.YthjdnhhifjpidaaGreatDoor.M
