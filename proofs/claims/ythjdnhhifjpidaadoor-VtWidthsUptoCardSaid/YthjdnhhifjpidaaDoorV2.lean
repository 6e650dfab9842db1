import Derived.Test.YthjdnhhifjpidaaDoorV1
set_option linter.unusedVariables false
set_option linter.unusedSimpArgs false
set_option maxRecDepth 100000
namespace Go.Proofs.YthjdnhhifjpidaaDoor.M
open Go Go.Hp

/-! ### A screen of three columns and two rows, as it is on the way that is walked -/
abbrev Gl := ByteArray × Int × Int × Int × Int
abbrev gf (g : Gl) : List Value := [.string g.1, .int .i64 g.2.1, .int .i64 g.2.2.1, .int .i64 g.2.2.2.1, .int .i64 g.2.2.2.2]
abbrev rf (r : Option Addr × Nat × Nat) : List Value := [.slice r.1 r.2.1 r.2.2]
abbrev bf (b : Int) : List Value := [.int .u8 b]
def scr (rs : Option Addr) (rc : Nat) (ta : Option Addr) (x y fore st : Int) (ga : Option Addr) (gn gc : Nat) (last : Int) : Array Value :=
  (.int .i64 3 :: .int .i64 2 :: .int .i64 0 :: .slice rs 2 rc :: .pointer none :: .slice none 0 0 :: .pointer none :: .bool false :: .slice none 0 0 :: .int .i64 x :: .int .i64 y :: .int .i64 fore :: .int .i64 0 :: .int .i64 0 :: .bool false :: .bool false :: .bool false :: .bool false :: .bool false :: .int .i64 0 :: .int .i64 1 :: .slice ta 3 3 :: .bool false :: .bool false :: .bool true :: .bool false :: .bool false :: .bool false :: .string ⟨#[]⟩ :: .int .i64 0 :: .string ⟨#[]⟩ :: .int .i64 st :: .slice ga gn gc :: .bool false :: .int .u8 0 :: .int .u8 0 :: .int .u8 0 :: .int .u8 0 :: .int .i64 0 :: .int .i64 0 :: .int .i32 last :: [] : List Value).toArray
abbrev rowC (a b c : Gl) : Array Value := ((gf a ++ (gf b ++ gf c)) : List Value).toArray
structure Sc where
  x : Int
  y : Int
  fore : Int
  st : Int
  gs : List Int
  last : Int
  a0 : Gl
  a1 : Gl
  a2 : Gl
  b0 : Gl
  b1 : Gl
  b2 : Gl
/-- The screen stands at block s. -/
def St (h0 h : Heap) (s : Nat) (S : Sc) : Prop :=
  ∃ (rs : Option Addr) (rc : Nat) (ta : Option Addr) (ga : Option Addr) (gc r0 r1 : Nat) (oR oG : List (Nat × Array Value × TypeId)),
    Own h0 h ((s, scr rs rc ta S.x S.y S.fore S.st ga S.gs.length gc S.last, 69) :: (r0, rowC S.a0 S.a1 S.a2, 43) :: (r1, rowC S.b0 S.b1 S.b2, 43) :: (oR ++ (oG ++ []))) ∧
    SlO rf 1 72 rs 2 rc [(some ⟨r0, 0, none⟩, 3, 3), (some ⟨r1, 0, none⟩, 3, 3)] oR ∧ SlO bf 1 5 ga S.gs.length gc S.gs oG
theorem St.gap {h0 h h1 : Heap} {s : Nat} {S : Sc} (hs : St h0 h s S) (he : Ext h h1) : St h0 h1 s S := by
  obtain ⟨rs, rc, ta, ga, gc, r0, r1, oR, oG, ho, h1, h2⟩ := hs
  exact ⟨rs, rc, ta, ga, gc, r0, r1, oR, oG, ho.gap he, h1, h2⟩
theorem St.ext {h0 h : Heap} {s : Nat} {S : Sc} (hs : St h0 h s S) : Ext h0 h := by
  obtain ⟨rs, rc, ta, ga, gc, r0, r1, oR, oG, ho, h1, h2⟩ := hs
  exact ho.ext
theorem to_sp {h0 h : Heap} {s : Nat} {S : Sc} {x y : Int} {K : Heap → Prop} (hs : St h0 h s S) (hk : ∀ h1, St h0 h1 s { S with x := imax 0 (imin x 2), y := imax 0 (imin y 1) } → K h1) : vt_Screen_to (some ⟨s, 0, none⟩) x y K h := by
  obtain ⟨rs, rc, ta, ga, gc, r0, r1, oR, oG, ho, q1, q2⟩ := hs
  unfold vt_Screen_to
  refine nz_i ?_
  simp only [add0, Nat.zero_add]
  repeat (first | ((with_reducible apply newB_o); (with_reducible assumption); intro _ _ _) | ((with_reducible apply gap_o); (with_reducible assumption); intro _ _) | ((with_reducible apply st0); (with_reducible assumption); rfl; intro _ _) | ((with_reducible apply st1); (with_reducible assumption); rfl; intro _ _) | ((with_reducible apply st2); (with_reducible assumption); rfl; intro _ _) | ((with_reducible apply ldI0); (with_reducible assumption); rfl) | ((with_reducible apply ldI1); (with_reducible assumption); rfl) | ((with_reducible apply ldI2); (with_reducible assumption); rfl) | ((with_reducible apply ldB0); (with_reducible assumption); rfl) | ((with_reducible apply ldB1); (with_reducible assumption); rfl) | ((with_reducible apply ldS0); (with_reducible assumption); rfl) | ((with_reducible apply ldS1); (with_reducible assumption); rfl) | (with_reducible refine and_i (Own.tab (by with_reducible assumption) (by with_reducible assumption)) ?_) | (with_reducible apply nz_i))
  exact hk _ ⟨rs, rc, ta, ga, gc, r0, r1, oR, oG, by assumption, q1, q2⟩
end Go.Proofs.YthjdnhhifjpidaaDoor.M
