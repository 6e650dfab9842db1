import Derived.Test.YthjdnhhifjpidaaDoorF6
set_option linter.unusedVariables false
set_option linter.unusedSimpArgs false
set_option maxRecDepth 100000
namespace Go.Proofs.YthjdnhhifjpidaaDoor.M
open Go Go.Hp

/-! ### Small laws -/
theorem ldL0 {h0 : Base} {h : Heap} {b : Nat} {cs : Array Value} {t : TypeId} {l} {a : Option Addr} {n c off : Nat} {K : Option Addr → Nat → Nat → Prop} (ho : Own h0 h ((b, cs, t) :: l)) (hv : cs[off]? = some (.slice a n c)) (hk : K a n c) : ldL h ⟨b, off, none⟩ K := ⟨a, n, c, ho.get0.cell off hv, hk⟩
theorem ldP0 {h0 : Base} {h : Heap} {b : Nat} {cs : Array Value} {t : TypeId} {l} {a : Option Addr} {off : Nat} {K : Option Addr → Prop} (ho : Own h0 h ((b, cs, t) :: l)) (hv : cs[off]? = some (.pointer a)) (hk : K a) : ldP h ⟨b, off, none⟩ K := ⟨a, ho.get0.cell off hv, hk⟩
theorem mk_o {h0 : Base} {h : Heap} {l} {et : TypeId} {by_ : Nat} {z : List Value} {n : Int} {K : Nat → Heap → Prop} (ho : Own h0 h l) (h1 : 0 ≤ n) (h2 : (by_ : Int) * n ≤ 281474976710656) (h3 : n ≤ 9223372036854775807) (k : ∀ b h1, Own h0 h1 ((b, (zeros z n.toNat).toArray, et) :: l) → K b h1) : mkM h et by_ z n K :=
  ⟨⟨h1, h2⟩, h3, newB_o ho k⟩
theorem wrap64 {x : Int} (h0 : -9223372036854775808 ≤ x) (h1 : x ≤ 9223372036854775807) : IntKind.wrap .i64 x = x := by rw [IntKind.wrap_i64]; omega
theorem addadd (a : Addr) (i j : Nat) : (a.add i).add j = a.add (i + j) := by
  unfold Addr.add
  by_cases hi : i = 0 <;> by_cases hj : j = 0 <;> simp [hi, hj, Nat.add_assoc]

/-! ### The screen, as plain data -/
abbrev Gl := ByteArray × Int × Int × Int × Int
abbrev gf (g : Gl) : List Value := [.string g.1, .int .i64 g.2.1, .int .i64 g.2.2.1, .int .i64 g.2.2.2.1, .int .i64 g.2.2.2.2]
abbrev rf (r : Option Addr × Nat × Nat) : List Value := [.slice r.1 r.2.1 r.2.2]
abbrev bf (b : Int) : List Value := [.int .u8 b]
abbrev tf (b : Bool) : List Value := [.bool b]
theorem gf_len (g : Gl) : (gf g).length = 5 := rfl
theorem rf_len (r : Option Addr × Nat × Nat) : (rf r).length = 1 := rfl
theorem bf_len (b : Int) : (bf b).length = 1 := rfl
theorem tf_len (b : Bool) : (tf b).length = 1 := rfl
/-- What is kept of a cursor. -/
structure Pl where
  x : Int
  y : Int
  fore : Int
  back : Int
  marks : Int
  origin : Bool
  l0 : Bool
  l1 : Bool
  second : Bool
  waiting : Bool
def plC (p : Pl) : Array Value := #[.int .i64 p.x, .int .i64 p.y, .int .i64 p.fore, .int .i64 p.back, .int .i64 p.marks, .bool p.origin, .bool p.l0, .bool p.l1, .bool p.second, .bool p.waiting]
structure Scr where
  w : Int
  h : Int
  most : Int
  main : List (List Gl)
  mkept : Option Pl
  other : List (List Gl)
  okept : Option Pl
  alt : Bool
  past : List (List Gl)
  pl : Pl
  top : Int
  bottom : Int
  tabs : List Bool
  insert : Bool
  newline : Bool
  wrap : Bool
  app : Bool
  bracket : Bool
  hidden : Bool
  title : ByteArray
  bells : Int
  answer : ByteArray
  state : Int
  gathered : List Int
  over : Bool
  u0 : Int
  u1 : Int
  u2 : Int
  u3 : Int
  have_ : Int
  want : Int
  last : Int
/-- Where its parts stand. -/
structure Refs where
  m : Option Addr
  mn : Nat
  mc : Nat
  mq : Option Addr
  o : Option Addr
  on : Nat
  oc : Nat
  oq : Option Addr
  p : Option Addr
  pn : Nat
  pc : Nat
  t : Option Addr
  tn : Nat
  tc : Nat
  g : Option Addr
  gn : Nat
  gc : Nat
def scrC (S : Scr) (A : Refs) : Array Value :=
  (.int .i64 S.w :: .int .i64 S.h :: .int .i64 S.most :: .slice A.m A.mn A.mc :: .pointer A.mq :: .slice A.o A.on A.oc :: .pointer A.oq :: .bool S.alt :: .slice A.p A.pn A.pc :: .int .i64 S.pl.x :: .int .i64 S.pl.y :: .int .i64 S.pl.fore :: .int .i64 S.pl.back :: .int .i64 S.pl.marks :: .bool S.pl.origin :: .bool S.pl.l0 :: .bool S.pl.l1 :: .bool S.pl.second :: .bool S.pl.waiting :: .int .i64 S.top :: .int .i64 S.bottom :: .slice A.t A.tn A.tc :: .bool S.insert :: .bool S.newline :: .bool S.wrap :: .bool S.app :: .bool S.bracket :: .bool S.hidden :: .string S.title :: .int .i64 S.bells :: .string S.answer :: .int .i64 S.state :: .slice A.g A.gn A.gc :: .bool S.over :: .int .u8 S.u0 :: .int .u8 S.u1 :: .int .u8 S.u2 :: .int .u8 S.u3 :: .int .i64 S.have_ :: .int .i64 S.want :: .int .i32 S.last :: [] : List Value).toArray
abbrev Blks := List (Nat × Array Value × TypeId)
/-- Rows, each in a block of its own: their headers' slice, then they themselves. -/
def RowsB (ks : List (Option Addr × Nat × Nat)) (R : List (List Gl)) (bs : List Blks) : Prop :=
  ks.length = R.length ∧ bs.length = R.length ∧ ∀ i, i < R.length → SlO gf 5 43 (ks.getD i (none, 0, 0)).1 (ks.getD i (none, 0, 0)).2.1 (ks.getD i (none, 0, 0)).2.2 (R.getD i []) (bs.getD i [])
def RowsR (a : Option Addr) (n c : Nat) (R : List (List Gl)) (o : Blks) : Prop :=
  ∃ ks oh bs, o = oh ++ bs.flatten ∧ SlO rf 1 72 a n c ks oh ∧ RowsB ks R bs
def KeptR (a : Option Addr) (p : Option Pl) (o : Blks) : Prop := match p with
  | none => a = none ∧ o = []
  | some p => ∃ b, a = some ⟨b, 0, none⟩ ∧ o = [(b, plC p, 63)]
/-- The screen S stands at block s; ob: all the blocks of its parts. -/
structure Parts (S : Scr) (A : Refs) (oM oO oP oT oG oK oL : Blks) : Prop where
  main : RowsR A.m A.mn A.mc S.main oM
  other : RowsR A.o A.on A.oc S.other oO
  past : RowsR A.p A.pn A.pc S.past oP
  tabs : SlO tf 1 4 A.t A.tn A.tc S.tabs oT
  gath : SlO bf 1 5 A.g A.gn A.gc S.gathered oG
  mkept : KeptR A.mq S.mkept oK
  okept : KeptR A.oq S.okept oL
def Rep (h0 : Base) (h : Heap) (s : Nat) (S : Scr) : Prop :=
  ∃ A oM oO oP oT oG oK oL, Own h0 h ((s, scrC S A, 69) :: (oM ++ (oO ++ (oP ++ (oT ++ (oG ++ (oK ++ oL))))))) ∧ Parts S A oM oO oP oT oG oK oL
theorem Rep.gap {h0 : Base} {h h1 : Heap} {s : Nat} {S : Scr} (hs : Rep h0 h s S) (he : Ext h h1) : Rep h0 h1 s S := by
  obtain ⟨A, oM, oO, oP, oT, oG, oK, oL, ho, hp⟩ := hs
  exact ⟨A, oM, oO, oP, oT, oG, oK, oL, ho.gap he, hp⟩
theorem Rep.ext {h0 : Base} {h : Heap} {s : Nat} {S : Scr} (hs : Rep h0 h s S) : Ext h0.h h := by
  obtain ⟨A, oM, oO, oP, oT, oG, oK, oL, ho, hp⟩ := hs
  exact ho.ext

/-! ### Where the cursor goes -/
def toV (S : Scr) (x y : Int) : Scr := { S with pl := { S.pl with x := imax 0 (imin x (IntKind.wrap .i64 (S.w - 1))), y := imax 0 (imin y (IntKind.wrap .i64 (S.h - 1))), waiting := false } }
theorem to_sp {h0 : Base} {h : Heap} {s : Nat} {S : Scr} {x y : Int} {K : Heap → Prop} (hs : Rep h0 h s S) (hk : ∀ h1, Rep h0 h1 s (toV S x y) → K h1) : vt_Screen_to (some ⟨s, 0, none⟩) x y K h := by
  obtain ⟨A, oM, oO, oP, oT, oG, oK, oL, ho, hp⟩ := hs
  unfold vt_Screen_to
  refine nz_i ?_
  simp only [add0, Nat.zero_add]
  repeat (first | ((with_reducible apply newB_o); (with_reducible assumption); intro _ _ _) | ((with_reducible apply st0); (with_reducible assumption); rfl; intro _ _) | ((with_reducible apply ldI0); (with_reducible assumption); rfl) | ((with_reducible apply ldB0); (with_reducible assumption); rfl) | ((with_reducible apply ldS0); (with_reducible assumption); rfl) | (with_reducible apply nz_i))
  exact hk _ ⟨A, oM, oO, oP, oT, oG, oK, oL, by assumption, hp.1, hp.2, hp.3, hp.4, hp.5, hp.6, hp.7⟩
def homeV (S : Scr) (y x : Int) : Scr := toV S (IntKind.wrap .i64 (x - 1)) (if S.pl.origin = true then imin (IntKind.wrap .i64 (IntKind.wrap .i64 (y - 1) + S.top)) S.bottom else IntKind.wrap .i64 (y - 1))
def rowsUpV (S : Scr) (n : Int) : Scr := toV S S.pl.x (imax (if S.top ≤ S.pl.y then S.top else 0) (IntKind.wrap .i64 (S.pl.y - n)))
def rowsDownV (S : Scr) (n : Int) : Scr := toV S S.pl.x (imin (if S.pl.y ≤ S.bottom then S.bottom else IntKind.wrap .i64 (S.h - 1)) (IntKind.wrap .i64 (S.pl.y + n)))
end Go.Proofs.YthjdnhhifjpidaaDoor.M
