import Derived.Test.YthjdnhhifjpidaaDoorU26
set_option linter.unusedVariables false
set_option linter.unusedSimpArgs false
set_option maxRecDepth 100000
namespace Go.Proofs.YthjdnhhifjpidaaDoor.M
open Go Go.Hp

/-! ### Characters of several bytes, and the bytes themselves -/
def firstT (b : Nat) : Int := ((Go.Pinned.utf8FirstZ.getD b 0 : Nat) : Int)
def szT (b : Nat) : Int := IntKind.wrap .i64 (iAnd .u8 (firstT b) 7)
def accT (b : Nat) : Int × Int := tab1.getD (Int.fdiv (firstT b) (2 ^ 4)).toNat tab1d
/-- What utf8.DecodeRune answers of n bytes. -/
def decV (n b0 b1 b2 b3 : Int) : Int :=
  if b0 < 128 then IntKind.wrap .i32 b0 else
  if 240 ≤ firstT b0.toNat then iOr .i32 (iAndNot .i32 (IntKind.wrap .i32 b0) (Int.fdiv (IntKind.wrap .i32 ((IntKind.wrap .i32 (firstT b0.toNat)) * 2 ^ 31)) (2 ^ 31))) (iAnd .i32 65533 (Int.fdiv (IntKind.wrap .i32 ((IntKind.wrap .i32 (firstT b0.toNat)) * 2 ^ 31)) (2 ^ 31))) else
  if n < szT b0.toNat then 65533 else
  if b1 < (accT b0.toNat).1 ∨ (accT b0.toNat).2 < b1 then 65533 else
  if szT b0.toNat ≤ 2 then iOr .i32 (IntKind.wrap .i32 ((IntKind.wrap .i32 (iAnd .u8 b0 31)) * 2 ^ 6)) (IntKind.wrap .i32 (iAnd .u8 b1 63)) else
  if b2 < 128 ∨ 191 < b2 then 65533 else
  if szT b0.toNat ≤ 3 then iOr .i32 (iOr .i32 (IntKind.wrap .i32 ((IntKind.wrap .i32 (iAnd .u8 b0 15)) * 2 ^ 12)) (IntKind.wrap .i32 ((IntKind.wrap .i32 (iAnd .u8 b1 63)) * 2 ^ 6))) (IntKind.wrap .i32 (iAnd .u8 b2 63)) else
  if b3 < 128 ∨ 191 < b3 then 65533 else
  iOr .i32 (iOr .i32 (iOr .i32 (IntKind.wrap .i32 ((IntKind.wrap .i32 (iAnd .u8 b0 7)) * 2 ^ 18)) (IntKind.wrap .i32 ((IntKind.wrap .i32 (iAnd .u8 b1 63)) * 2 ^ 12))) (IntKind.wrap .i32 ((IntKind.wrap .i32 (iAnd .u8 b2 63)) * 2 ^ 6))) (IntKind.wrap .i32 (iAnd .u8 b3 63))
def setU (S : Scr) (i : Int) (b : Int) : Scr :=
  if i = 0 then { S with u0 := b } else if i = 1 then { S with u1 := b } else if i = 2 then { S with u2 := b } else { S with u3 := b }
theorem Ok.setU {S : Scr} (o : Ok S) (i b : Int) : Ok (setU S i b) := ite_ok (fun _ => ⟨⟨o.d.w0, o.d.w1, o.d.h0, o.d.h1, o.d.m0, o.d.m1, o.d.past, o.d.main, o.d.other⟩, ⟨o.c.p, o.c.t0, o.c.tb, o.c.bh, o.c.tabs, o.c.gath, o.c.ans, o.c.hv0, o.c.hv1, o.c.km, o.c.ko⟩⟩) (fun _ => ite_ok (fun _ => ⟨⟨o.d.w0, o.d.w1, o.d.h0, o.d.h1, o.d.m0, o.d.m1, o.d.past, o.d.main, o.d.other⟩, ⟨o.c.p, o.c.t0, o.c.tb, o.c.bh, o.c.tabs, o.c.gath, o.c.ans, o.c.hv0, o.c.hv1, o.c.km, o.c.ko⟩⟩) (fun _ => ite_ok (fun _ => ⟨⟨o.d.w0, o.d.w1, o.d.h0, o.d.h1, o.d.m0, o.d.m1, o.d.past, o.d.main, o.d.other⟩, ⟨o.c.p, o.c.t0, o.c.tb, o.c.bh, o.c.tabs, o.c.gath, o.c.ans, o.c.hv0, o.c.hv1, o.c.km, o.c.ko⟩⟩) (fun _ => ⟨⟨o.d.w0, o.d.w1, o.d.h0, o.d.h1, o.d.m0, o.d.m1, o.d.past, o.d.main, o.d.other⟩, ⟨o.c.p, o.c.t0, o.c.tb, o.c.bh, o.c.tabs, o.c.gath, o.c.ans, o.c.hv0, o.c.hv1, o.c.km, o.c.ko⟩⟩)))
def loV (S : Scr) : Int := if S.have_ = 1 then if S.u0 = 224 then 160 else if S.u0 = 237 then 128 else if S.u0 = 240 then 144 else 128 else 128
def hiV (S : Scr) : Int := if S.have_ = 1 then if S.u0 = 224 then 191 else if S.u0 = 237 then 159 else if S.u0 = 240 then 191 else if S.u0 = 244 then 143 else 191 else 191
def goesV (S : Scr) (b : Int) : Bool := (decide (loV S ≤ b)) && (decide (b ≤ hiV S))
def more (S : Scr) (b : Int) : Scr := { setU S S.have_ b with have_ := S.have_ + 1 }
def done (S : Scr) (b : Int) : Scr := { setU S S.have_ b with have_ := 0 }
def runeV (S : Scr) : Int := decV S.want S.u0 S.u1 S.u2 S.u3
def goOnV (S : Scr) (b : Int) : Scr :=
  if S.have_ + 1 = S.want then (if 0 ≤ widthV (runeV (done S b)) then writeV (done S b) (runeV (done S b)) else done S b) else more S b
theorem setU_f (S : Scr) (i b : Int) : (setU S i b).w = S.w ∧ (setU S i b).h = S.h ∧ (setU S i b).most = S.most ∧ (setU S i b).bells = S.bells ∧ (setU S i b).have_ = S.have_ ∧ (setU S i b).want = S.want := by
  unfold setU
  split
  · exact ⟨rfl, rfl, rfl, rfl, rfl, rfl⟩
  split
  · exact ⟨rfl, rfl, rfl, rfl, rfl, rfl⟩
  split <;> exact ⟨rfl, rfl, rfl, rfl, rfl, rfl⟩
theorem setU_0 {S : Scr} {i b : Int} (hi : i ≠ 0) : (setU S i b).u0 = S.u0 := by
  unfold setU
  rw [if_neg hi]
  split
  · rfl
  split <;> rfl
theorem Ok.more {S : Scr} (o : Ok S) (b : Int) (h0 : 0 < S.have_) (h1 : S.have_ + 1 ≠ S.want) : Ok (more S b) := by
  have o := o.setU S.have_ b
  have e := (setU_f S S.have_ b).2.2.2.2
  have hv := o.c.hv1
  rw [e.1, e.2] at hv
  have hv := hv h0
  unfold M.more
  refine ⟨⟨o.d.w0, o.d.w1, o.d.h0, o.d.h1, o.d.m0, o.d.m1, o.d.past, o.d.main, o.d.other⟩, ⟨o.c.p, o.c.t0, o.c.tb, o.c.bh, o.c.tabs, o.c.gath, o.c.ans, ?_, fun _ => ?_, o.c.km, o.c.ko⟩⟩
  · show (0 : Int) ≤ S.have_ + 1
    omega
  · show S.have_ + 1 < (M.setU S S.have_ b).want ∧ (M.setU S S.have_ b).want ≤ 4
    rw [e.2]
    omega
theorem Ok.done {S : Scr} (o : Ok S) (b : Int) : Ok (done S b) := (o.setU S.have_ b).noHave
theorem Ok.goOn {S : Scr} (o : Ok S) (b : Int) (h0 : 0 < S.have_) : Ok (goOnV S b) := ite_ok (fun _ => ite_ok (fun _ => (o.done b).write _) (fun _ => o.done b)) (fun h => o.more b h0 h)
theorem Fx.setU {R S : Scr} (f : Fx R S) (i b : Int) (hb : i = 0 → 0 ≤ b ∧ b ≤ 255) : Fx R (M.setU S i b) := by
  have e := setU_f S i b
  refine ⟨e.1.trans f.w, e.2.1.trans f.h, e.2.2.1.trans f.most, e.2.2.2.1.trans f.bells, fun h => ?_⟩
  by_cases hi : i = 0
  · have : (M.setU S i b).u0 = b := by
      unfold M.setU
      rw [if_pos hi]
    rw [this]
    exact hb hi
  · rw [setU_0 hi]
    exact f.u h
theorem Fx.goOn {R S : Scr} (f : Fx R S) (b : Int) (h0 : 0 < S.have_) : Fx R (goOnV S b) := by
  have f1 := f.setU S.have_ b (fun h => by omega)
  have fd : Fx R (M.done S b) := ⟨f1.w, f1.h, f1.most, f1.bells, f1.u⟩
  have fm : Fx R (M.more S b) := ⟨f1.w, f1.h, f1.most, f1.bells, f1.u⟩
  exact ite_fx (ite_fx (fd.write _) fd) fm
def wantV (b : Int) : Int := if 240 ≤ b then 4 else if 224 ≤ b then 3 else 2
def startV (S : Scr) (b : Int) : Scr := { S with u0 := b, have_ := 1, want := wantV b }
theorem wantV_rng (b : Int) : 1 < wantV b ∧ wantV b ≤ 4 := by
  unfold wantV
  split
  · omega
  · split <;> omega
theorem Ok.start {S : Scr} (o : Ok S) (b : Int) : Ok (startV S b) := by
  have := wantV_rng b
  exact ⟨⟨o.d.w0, o.d.w1, o.d.h0, o.d.h1, o.d.m0, o.d.m1, o.d.past, o.d.main, o.d.other⟩, ⟨o.c.p, o.c.t0, o.c.tb, o.c.bh, o.c.tabs, o.c.gath, o.c.ans, by show (0 : Int) ≤ 1; decide, fun _ => this, o.c.km, o.c.ko⟩⟩
def ground1 (S : Scr) (b : Int) : Scr :=
  if b < 32 then doesV S b else if b < 127 then writeV S b else if b = 127 then S else if 194 ≤ b ∧ b ≤ 244 then startV S b else writeV S 65533
def groundV (S : Scr) (b : Int) : Scr := if 0 < S.have_ then (if goesV S b = true then goOnV S b else ground1 (brokenV S) b) else ground1 S b
theorem Ok.ground1 {S : Scr} (o : Ok S) (b : Int) : Ok (ground1 S b) :=
  ite_ok (fun _ => o.does b) (fun _ => ite_ok (fun _ => o.write b) (fun _ => ite_ok (fun _ => o) (fun _ => ite_ok (fun _ => o.start b) (fun _ => o.write _))))
theorem Ok.ground {S : Scr} (o : Ok S) (b : Int) : Ok (groundV S b) := ite_ok (fun h => ite_ok (fun _ => o.goOn b h) (fun _ => o.broken.ground1 b)) (fun _ => o.ground1 b)
theorem f3_ground1 (S : Scr) (b : Int) : F3 S (ground1 S b) := by
  have f := Fx.self S
  unfold ground1
  refine ite_f3 (f3_does S b) (ite_f3 (f.write b).f3 (ite_f3 f.f3 ?_))
  by_cases h : 194 ≤ b ∧ b ≤ 244
  · rw [if_pos h]
    exact ⟨rfl, rfl, rfl, fun _ => by show 0 ≤ b ∧ b ≤ 255; omega⟩
  · rw [if_neg h]
    exact (f.write _).f3
theorem f3_ground (S : Scr) (b : Int) : F3 S (groundV S b) := by
  have f := Fx.self S
  unfold groundV
  by_cases h : 0 < S.have_
  · rw [if_pos h]
    exact ite_f3 (f.goOn b h).f3 (f.broken.f3.trans (f3_ground1 _ b))
  · rw [if_neg h]
    exact f3_ground1 S b
def escapeV (S : Scr) (b : Int) : Scr :=
  if S.gathered.length = 0 ∧ b = 91 then beginV S 2 else if S.gathered.length = 0 ∧ b = 93 then beginV S 3 else
  if S.gathered.length = 0 ∧ (b = 80 ∨ b = 88 ∨ b = 94 ∨ b = 95) then setState S 4 else
  if b < 32 then doesV S b else if b < 48 then gatherV S b else
  if b < 127 then (if S.over = false then escapedV (setState S 0) b else setState S 0) else
  if 128 ≤ b then groundV (setState S 0) b else S
def sequenceV (S : Scr) (b : Int) : Scr :=
  if b < 32 then doesV S b else if b < 64 then gatherV S b else
  if b < 127 then (if S.over = false then controlledV (setState S 0) b else setState S 0) else
  if 128 ≤ b then groundV (setState S 0) b else S
theorem Ok.escape {S : Scr} (o : Ok S) (b : Int) : Ok (escapeV S b) :=
  ite_ok (fun _ => o.begin 2) (fun _ => ite_ok (fun _ => o.begin 3) (fun _ => ite_ok (fun _ => o.setState 4) (fun _ => ite_ok (fun _ => o.does b) (fun _ => ite_ok (fun _ => o.gather b) (fun _ => ite_ok (fun _ => ite_ok (fun _ => (o.setState 0).escaped b) (fun _ => o.setState 0)) (fun _ => ite_ok (fun _ => (o.setState 0).ground b) (fun _ => o)))))))
theorem Ok.sequence {S : Scr} (o : Ok S) (b : Int) : Ok (sequenceV S b) :=
  ite_ok (fun _ => o.does b) (fun _ => ite_ok (fun _ => o.gather b) (fun _ => ite_ok (fun _ => ite_ok (fun _ => (o.setState 0).controlled b) (fun _ => o.setState 0)) (fun _ => ite_ok (fun _ => (o.setState 0).ground b) (fun _ => o))))
theorem f3_escape (S : Scr) (b : Int) : F3 S (escapeV S b) := by
  have f := Fx.self S
  exact ite_f3 (f.begin 2).f3 (ite_f3 (f.begin 3).f3 (ite_f3 (f.setState 4).f3 (ite_f3 (f3_does S b) (ite_f3 (f.gather b).f3 (ite_f3 (ite_f3 ((f.setState 0).escaped b).f3 (f.setState 0).f3) (ite_f3 ((f.setState 0).f3.trans (f3_ground _ b)) f.f3))))))
theorem f3_sequence (S : Scr) (b : Int) : F3 S (sequenceV S b) := by
  have f := Fx.self S
  exact ite_f3 (f3_does S b) (ite_f3 (f.gather b).f3 (ite_f3 (ite_f3 ((f.setState 0).controlled b).f3 (f.setState 0).f3) (ite_f3 ((f.setState 0).f3.trans (f3_ground _ b)) f.f3)))
def titleV (S : Scr) (b : Int) : Scr :=
  if b = 7 then setState (namedV S) 0 else if 32 ≤ b ∧ b ≠ 127 ∧ (S.gathered.length : Int) < 130 then { S with gathered := S.gathered ++ [b] } else S
theorem Ok.title {S : Scr} (o : Ok S) (b : Int) : Ok (titleV S b) := by
  unfold titleV
  refine ite_ok (fun _ => o.named.setState 0) (fun _ => ite_ok (fun h => ?_) (fun _ => o))
  exact ⟨⟨o.d.w0, o.d.w1, o.d.h0, o.d.h1, o.d.m0, o.d.m1, o.d.past, o.d.main, o.d.other⟩, ⟨o.c.p, o.c.t0, o.c.tb, o.c.bh, o.c.tabs, by simp only [List.length_append, List.length_singleton]; omega, o.c.ans, o.c.hv0, o.c.hv1, o.c.km, o.c.ko⟩⟩
theorem f3_title (S : Scr) (b : Int) : F3 S (titleV S b) := ite_f3 ((Fx.self S).named.setState 0).f3 (ite_f3 ⟨rfl, rfl, rfl, fun h => h⟩ (F3.self S))
def escV (S : Scr) : Scr := beginV (if (brokenV S).state = 3 then namedV (brokenV S) else brokenV S) 1
def byteV (S : Scr) (b : Int) : Scr :=
  if b = 24 ∨ b = 26 then setState (brokenV S) 0 else if b = 27 then escV S else
  if S.state = 0 then groundV S b else if S.state = 1 then escapeV S b else if S.state = 2 then sequenceV S b else if S.state = 3 then titleV S b else S
theorem Ok.esc {S : Scr} (o : Ok S) : Ok (escV S) := (ite_ok (fun _ => o.broken.named) (fun _ => o.broken)).begin 1
theorem Fx.esc {R S : Scr} (f : Fx R S) : Fx R (escV S) := (ite_fx f.broken.named f.broken).begin 1
theorem Ok.byte {S : Scr} (o : Ok S) (b : Int) : Ok (byteV S b) :=
  ite_ok (fun _ => o.broken.setState 0) (fun _ => ite_ok (fun _ => o.esc) (fun _ => ite_ok (fun _ => o.ground b) (fun _ => ite_ok (fun _ => o.escape b) (fun _ => ite_ok (fun _ => o.sequence b) (fun _ => ite_ok (fun _ => o.title b) (fun _ => o))))))
theorem f3_byte (S : Scr) (b : Int) : F3 S (byteV S b) :=
  ite_f3 ((Fx.self S).broken.setState 0).f3 (ite_f3 (Fx.self S).esc.f3 (ite_f3 (f3_ground S b) (ite_f3 (f3_escape S b) (ite_f3 (f3_sequence S b) (ite_f3 (f3_title S b) (F3.self S))))))
def bytesL : List Int → Scr → Scr
  | [], S => S
  | b :: l, S => bytesL l (byteV S b)
theorem Ok.bytesL : ∀ (l : List Int) (S : Scr), Ok S → Ok (bytesL l S)
  | [], S, o => o
  | b :: l, S, o => Ok.bytesL l _ (o.byte b)
theorem f3_bytesL : ∀ (l : List Int) (S : Scr), F3 S (bytesL l S)
  | [], S => F3.self S
  | b :: l, S => (f3_byte S b).trans (f3_bytesL l _)
def intsOf (s : ByteArray) : List Int := s.data.toList.map fun b => ((b.toNat : Nat) : Int)
def strV (S : Scr) (s : ByteArray) : Scr := bytesL (intsOf s) S
end Go.Proofs.YthjdnhhifjpidaaDoor.M
