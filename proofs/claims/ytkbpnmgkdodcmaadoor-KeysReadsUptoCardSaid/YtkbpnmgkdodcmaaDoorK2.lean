/-
  PRINTED BY A PROGRAM OF THIS CLAIM'S (gen.py): for each Go function a Lean function over memory, and the proof that the code comes to what it says.
-/
import Derived.Test.YtkbpnmgkdodcmaaDoorK1
import Derived.Test.YtkbpnmgkdodcmaaDoorProg
set_option linter.unusedVariables false
set_option linter.unusedSimpArgs false
set_option maxRecDepth 100000
namespace Go.Proofs.YtkbpnmgkdodcmaaDoor.M
open Go Go.Hp
/- strings.CutPrefix -/
def strings_CutPrefix (a1 : ByteArray) (a2 : ByteArray) : Option (ByteArray × Bool) :=
 (internal_stringslite_CutPrefix a1 a2).bind fun r5 =>
 some (r5.1, r5.2)
theorem strings_CutPrefix_ok (a1 : ByteArray) (a2 : ByteArray) (r : ByteArray × Bool) (h : Heap) (hM : strings_CutPrefix a1 a2 = some r) : CallsH Tryd.prog 42 #[.string a1, .string a2] (fun v h' => v = .tuple #[.string r.1, .bool r.2] ∧ Ext h h') h := by
 unfold strings_CutPrefix at hM
 refine callsH_intro (n := 11) Tryd.func42 rfl rfl (by kernel_rfl) ?_
 refine cR ?_
 refine oS [(4, .string (⟨#[]⟩ : ByteArray)), (5, .bool false)] rfl ?_
 refine oE (cR ?_)
 refine oS [(6, .string a1), (7, .string a2)] rfl ?_
 obtain ⟨r5, hr6, hM⟩ := bindO hM
 refine owp_hpG rfl (by kernel_rfl) (hpCallP 55 #[.string a1, .string a2] (.tuple #[.string r5.1, .bool r5.2]) (by kernel_rfl) (internal_stringslite_CutPrefix_ok a1 a2 r5 h hr6) ?_)
 intro h3 hx4
 refine oS [(9, .string r5.1), (10, .bool r5.2), (4, .string r5.1), (5, .bool r5.2)] rfl ?_
 refine oE (cwp_ret ?_)
 obtain rfl := Option.some.inj hM
 exact ret_ (.tuple #[.string r5.1, .bool r5.2]) (by kernel_rfl) ⟨rfl, hx4⟩
/- mullion/keys.whole -/
def keys_whole_j0 (Kn : ByteArray → Nat → Heap → Prop) (Kr : Nat → Bool → Heap → Prop) (y30 : ByteArray) (y31 : Nat) (y32 : Bool) (h : Heap) : Prop :=
 if y32 = true then
  (1 : Int) < (y30.size : Int) ∧
  stN ⟨y31, 0, none⟩ [.int .i64 (IntKind.wrap .i64 (16777227 + (IntKind.wrap .i64 (IntKind.wrap .u8 ((byteAt y30 1) - 49))))), .int .i64 0] 0 h fun h36 =>
  Kr y31 true h36
 else
 Kn y30 y31 h
theorem keys_whole_j0_ok {Q : Exit → Env → Heap → Prop} (Kn : ByteArray → Nat → Heap → Prop) (hKn : ∀ (z43 : ByteArray) (z44 : Nat) (b : Env) (h : Heap), Kn z43 z44 h → Q .normal (upd (upd b 0 (.string z43)) 2 (.pointer (some ⟨z44, 0, none⟩))) h) (Kr : Nat → Bool → Heap → Prop) (hKr : ∀ (z47 : Nat) (z48 : Bool) (b : Env) (h : Heap), Kr z47 z48 h → Q .ret (upd (upd b 2 (.pointer (some ⟨z47, 0, none⟩))) 3 (.bool z48)) h) (y30 : ByteArray) (y31 : Nat) (y32 : Bool) (b : Env) (h : Heap) (hM : keys_whole_j0 Kn Kr y30 y31 y32 h) : cwp Tryd.prog (partC Tryd.f60 [1, 0, 1, 0, 1, 1, 1, 1, 1, 1, 1]) 56 Q (upd (upd (upd b 0 (.string y30)) 2 (.pointer (some ⟨y31, 0, none⟩))) 19 (.bool y32)) h := by
  unfold keys_whole_j0 at hM
  refine cwp_part rfl ?_
  refine cwp_condB y32 (by kernel_rfl) (fun hc33 => ?_) (fun hc33 => ?_)
  · replace hM := ifT hc33 hM
    refine cR ?_
    refine oS [(24, .string y30)] rfl ?_
    have hc34 : 0 ≤ (1 : Int) := by decide
    obtain ⟨hc35, hM⟩ := hM
    refine owp_rdG (.int .u8 (byteAt y30 1)) rfl (by kernel_rfl) (rd_ixStr (P := Tryd.prog) (h := h) (t := 9) (s := y30) (k := .i64) (i := 1) (by kernel_rfl) hc34 hc35 (by kernel_rfl)) ?_
    refine oS [(26, .int .u8 (IntKind.wrap .u8 ((byteAt y30 1) - 49))), (27, .int .i64 (IntKind.wrap .i64 (IntKind.wrap .u8 ((byteAt y30 1) - 49)))), (28, .int .i64 (IntKind.wrap .i64 (16777227 + (IntKind.wrap .i64 (IntKind.wrap .u8 ((byteAt y30 1) - 49)))))), (29, .agg #[.int .i64 (IntKind.wrap .i64 (16777227 + (IntKind.wrap .i64 (IntKind.wrap .u8 ((byteAt y30 1) - 49))))), .int .i64 0])] rfl ?_
    refine owp_hpD rfl (by kernel_rfl) (hpSt ⟨y31, 0, none⟩ [.int .i64 (IntKind.wrap .i64 (16777227 + (IntKind.wrap .i64 (IntKind.wrap .u8 ((byteAt y30 1) - 49))))), .int .i64 0] (fun _ => by kernel_rfl) rfl hM ?_)
    intro h36 hM
    refine oS [(3, .bool true)] rfl ?_
    refine oE (cwp_ret ?_)
    exact q_at (Q := Q .ret) 2 (.pointer (some ⟨y31, 0, none⟩)) (by kernel_rfl) (q_at (Q := Q .ret) 3 (.bool true) (by kernel_rfl) (hKr y31 true _ _ hM))
  replace hM := ifF hc33 hM
  refine cwp_skip ?_
  exact q_at (Q := Q .normal) 0 (.string y30) (by kernel_rfl) (q_at (Q := Q .normal) 2 (.pointer (some ⟨y31, 0, none⟩)) (by kernel_rfl) (hKn y30 y31 _ _ hM))
def keys_whole_l3 (K3 : ByteArray → Nat → Int → Heap → Prop) (Kr : Nat → Bool → Heap → Prop) : Nat → ByteArray → Nat → Int → Int → Int → Heap → Prop
  | 0, _, _, _, _, _, _ => False
  | k + 1, y58, y59, y60, y61, y62, h =>
  if y61 < 8 then
   newB h #[.int .i64 0, .int .i64 0] 36 fun b64 h65 =>
   stN ⟨b64, 0, none⟩ [.int .i64 (IntKind.wrap .i64 (16777217 + y60)), .int .i64 y61] 0 h65 fun h67 =>
   ldI h67 .i64 ⟨b64, 0, none⟩ fun x68 =>
   ldI h67 .i64 ⟨b64, 1, none⟩ fun x70 =>
   keys_specialBytes x68 x70 false (fun x75 h74 =>
    ex (strings_CutPrefix x75 (⟨#[27, 91]⟩ : ByteArray)) fun r78 =>
    if (r78.2 && (r78.1.toList == y58.toList)) = true then
     gap h74 fun h76 =>
     ldI h76 .i64 ⟨b64, 0, none⟩ fun x85 =>
     ldI h76 .i64 ⟨b64, 1, none⟩ fun x87 =>
     stN ⟨y59, 0, none⟩ [.int .i64 x85, .int .i64 x87] 0 h76 fun h91 =>
     Kr y59 true h91
    else
    gap h74 fun h76 =>
     keys_whole_l3 K3 Kr k y58 y59 y60 (IntKind.wrap .i64 (y61 + 1)) y62 h76) h67
  else
  K3 y58 y59 y62 h
theorem keys_whole_l3_ok {Q : Exit → Env → Heap → Prop} (K3 : ByteArray → Nat → Int → Heap → Prop) (hK3 : ∀ (z100 : ByteArray) (z101 : Nat) (z102 : Int) (b : Env) (h : Heap), K3 z100 z101 z102 h → Q (.exit 3) (upd (upd (upd b 0 (.string z100)) 2 (.pointer (some ⟨z101, 0, none⟩))) 30 (.int .i64 z102)) h) (Kr : Nat → Bool → Heap → Prop) (hKr : ∀ (z105 : Nat) (z106 : Bool) (b : Env) (h : Heap), Kr z105 z106 h → Q .ret (upd (upd b 2 (.pointer (some ⟨z105, 0, none⟩))) 3 (.bool z106)) h) : ∀ (k : Nat) (y58 : ByteArray) (y59 : Nat) (y60 : Int) (y61 : Int) (y62 : Int) (b : Env) (h : Heap) (hM : keys_whole_l3 K3 Kr k y58 y59 y60 y61 y62 h), lwp Tryd.prog (partC Tryd.f60 [1, 1, 0, 1, 0, 0, 1, 1, 0, 0, 1, 1, 0, 0]) 56 Q k (upd (upd (upd (upd (upd b 0 (.string y58)) 2 (.pointer (some ⟨y59, 0, none⟩))) 4 (.int .i64 y60)) 5 (.int .i64 y61)) 30 (.int .i64 y62)) h := by
  intro k
  induction k with
  | zero => intro y58 y59 y60 y61 y62 b h hM; exact (show False from hM).elim
  | succ k ih =>
    intro y58 y59 y60 y61 y62 b h hM
    unfold keys_whole_l3 at hM
    refine lwp_succ (cwp_part rfl ?_)
    refine cwp_seq (cR ?_)
    refine oS [(33, .int .i64 y61), (34, .bool (decide (y61 < 8)))] rfl ?_
    refine oE ?_
    refine cwp_condD (y61 < 8) (by kernel_rfl) (fun hc63 => ?_) (fun hc63 => ?_)
    · replace hM := ifT hc63 hM
      refine cwp_skip (thenE_n (cwp_seq (cwp_block (cR ?_))))
      refine oS [(37, .int .i64 y60), (38, .int .i64 (IntKind.wrap .i64 (16777217 + y60))), (39, .int .i64 y61), (40, .agg #[.int .i64 (IntKind.wrap .i64 (16777217 + y60)), .int .i64 y61])] rfl ?_
      refine owp_hpG rfl (by kernel_rfl) (hpNew #[.int .i64 0, .int .i64 0] 36 (fun _ => by kernel_rfl) ?_)
      intro b64 h65 hN66
      replace hM := newB_of hN66 hM
      refine owp_hpD rfl (by kernel_rfl) (hpSt ⟨b64, 0, none⟩ [.int .i64 (IntKind.wrap .i64 (16777217 + y60)), .int .i64 y61] (fun _ => by kernel_rfl) rfl hM ?_)
      intro h67 hM
      refine oE (cR ?_)
      obtain ⟨x68, hc69, hM⟩ := hM
      obtain ⟨x70, hc71, hM⟩ := hM
      refine owp_rdG (.agg #[.int .i64 x68, .int .i64 x70]) rfl (by kernel_rfl) (Eq.trans (b := (cellH h67 ⟨b64, 0, none⟩).bind fun v72 => (cellH h67 ⟨b64, 1, none⟩).bind fun v73 => some (.value (.agg #[v72, v73]))) (by kernel_rfl) ((bindE hc69 _).trans (bindE hc71 _))) ?_
      refine owp_hpG rfl (by kernel_rfl) (hpCallE 40 #[.agg #[.int .i64 x68, .int .i64 x70], .bool false] (by kernel_rfl) (keys_specialBytes_ok x68 x70 false _ h67 hM) ?_)
      rintro _ h74 ⟨x75, rfl, hM⟩
      obtain ⟨r78, hr79, hM⟩ := hM
      refine owp_hpG rfl (by kernel_rfl) (hpCallP 42 #[.string x75, .string (⟨#[27, 91]⟩ : ByteArray)] (.tuple #[.string r78.1, .bool r78.2]) (by kernel_rfl) (strings_CutPrefix_ok x75 (⟨#[27, 91]⟩ : ByteArray) r78 h74 hr79) ?_)
      intro h76 hx77
      refine oS [(41, .tuple #[.string r78.1, .bool r78.2]), (45, .string r78.1), (46, .bool r78.2), (7, .string r78.1), (8, .bool r78.2)] rfl ?_
      refine oE (cR ?_)
      refine oS [(47, .bool r78.2), (48, .bool r78.2)] rfl ?_
      refine oB (r78.2) 4 [46, 8, 47, 48] (fun b_ => [(49, iteV b_ (.string r78.1 : Value) undef), (50, iteV b_ (.string y58 : Value) undef), (51, iteV b_ (.bool (r78.1.toList == y58.toList) : Value) undef), (52, .bool (b_ && (r78.1.toList == y58.toList)))]) rfl (fun hb80 hq81 => oS [(49, .string r78.1), (50, .string y58), (51, .bool (r78.1.toList == y58.toList)), (52, .bool (r78.1.toList == y58.toList))] rfl (hq81)) (fun hb82 hq83 => oS [(49, undef), (50, undef), (51, undef), (52, .bool false)] rfl (hq83)) ?_
      refine oE ?_
      refine cwp_condB (r78.2 && (r78.1.toList == y58.toList)) (by kernel_rfl) (fun hc84 => ?_) (fun hc84 => ?_)
      · replace hM := ifT hc84 hM
        refine cR ?_
        replace hM := hM _ hx77
        obtain ⟨x85, hc86, hM⟩ := hM
        obtain ⟨x87, hc88, hM⟩ := hM
        refine owp_rdG (.agg #[.int .i64 x85, .int .i64 x87]) rfl (by kernel_rfl) (Eq.trans (b := (cellH h76 ⟨b64, 0, none⟩).bind fun v89 => (cellH h76 ⟨b64, 1, none⟩).bind fun v90 => some (.value (.agg #[v89, v90]))) (by kernel_rfl) ((bindE hc86 _).trans (bindE hc88 _))) ?_
        refine owp_hpD rfl (by kernel_rfl) (hpSt ⟨y59, 0, none⟩ [.int .i64 x85, .int .i64 x87] (fun _ => by kernel_rfl) rfl hM ?_)
        intro h91 hM
        refine oS [(3, .bool true)] rfl ?_
        refine oE (cwp_ret (blockE_r (thenE_r ?_)))
        exact q_at (Q := Q .ret) 2 (.pointer (some ⟨y59, 0, none⟩)) (by kernel_rfl) (q_at (Q := Q .ret) 3 (.bool true) (by kernel_rfl) (hKr y59 true _ _ hM))
      replace hM := ifF hc84 hM
      refine cwp_skip (blockE_n (thenE_n (cwp_region ?_)))
      refine oS [(35, .int .i64 y61), (36, .int .i64 (IntKind.wrap .i64 (y61 + 1))), (5, .int .i64 (IntKind.wrap .i64 (y61 + 1)))] rfl ?_
      refine owp_nil ?_
      replace hM := hM _ hx77
      exact lwp_at 0 (.string y58) (by kernel_rfl) (lwp_at 2 (.pointer (some ⟨y59, 0, none⟩)) (by kernel_rfl) (lwp_at 4 (.int .i64 y60) (by kernel_rfl) (lwp_at 5 (.int .i64 (IntKind.wrap .i64 (y61 + 1))) (by kernel_rfl) (lwp_at 30 (.int .i64 y62) (by kernel_rfl) (ih y58 y59 y60 (IntKind.wrap .i64 (y61 + 1)) y62 _ _ hM)))))
    replace hM := ifF hc63 hM
    refine cwp_exit (thenE_x ?_)
    exact q_at (Q := Q (.exit 3)) 0 (.string y58) (by kernel_rfl) (q_at (Q := Q (.exit 3)) 2 (.pointer (some ⟨y59, 0, none⟩)) (by kernel_rfl) (q_at (Q := Q (.exit 3)) 30 (.int .i64 y62) (by kernel_rfl) (hK3 y58 y59 y62 _ _ hM)))
def keys_whole_l2 (K1 : Nat → Heap → Prop) (Kr : Nat → Bool → Heap → Prop) : Nat → ByteArray → Nat → Int → Heap → Prop
  | 0, _, _, _, _ => False
  | k + 1, y54, y55, y56, h =>
  if y56 < 22 then
   ∃ k118, keys_whole_l3
    (fun z107 z108 z109 h110 =>
        keys_whole_l2 K1 Kr k z107 z108 (IntKind.wrap .i64 (z109 + 1)) h110)
    (fun z112 z113 h114 =>
        Kr z112 z113 h114) k118 y54 y55 y56 0 y56 h
  else
  K1 y55 h
theorem keys_whole_l2_ok {Q : Exit → Env → Heap → Prop} (K1 : Nat → Heap → Prop) (hK1 : ∀ (z121 : Nat) (b : Env) (h : Heap), K1 z121 h → Q (.exit 1) (upd b 2 (.pointer (some ⟨z121, 0, none⟩))) h) (Kr : Nat → Bool → Heap → Prop) (hKr : ∀ (z124 : Nat) (z125 : Bool) (b : Env) (h : Heap), Kr z124 z125 h → Q .ret (upd (upd b 2 (.pointer (some ⟨z124, 0, none⟩))) 3 (.bool z125)) h) : ∀ (k : Nat) (y54 : ByteArray) (y55 : Nat) (y56 : Int) (b : Env) (h : Heap) (hM : keys_whole_l2 K1 Kr k y54 y55 y56 h), lwp Tryd.prog (partC Tryd.f60 [1, 1, 0, 1, 0, 0]) 56 Q k (upd (upd (upd b 0 (.string y54)) 2 (.pointer (some ⟨y55, 0, none⟩))) 30 (.int .i64 y56)) h := by
  intro k
  induction k with
  | zero => intro y54 y55 y56 b h hM; exact (show False from hM).elim
  | succ k ih =>
    intro y54 y55 y56 b h hM
    unfold keys_whole_l2 at hM
    refine lwp_succ (cwp_part rfl ?_)
    refine cR ?_
    refine oS [(31, .bool (decide (y56 < 22)))] rfl ?_
    refine oE (cwp_seq ?_)
    refine cwp_condD (y56 < 22) (by kernel_rfl) (fun hc57 => ?_) (fun hc57 => ?_)
    · replace hM := ifT hc57 hM
      refine cwp_skip (thenE_n (cwp_seq (cwp_block (cR ?_))))
      refine oS [(32, .int .i64 y56), (4, .int .i64 y56)] rfl ?_
      refine oE (cR ?_)
      refine oS [(5, .int .i64 0)] rfl ?_
      refine oE (cwp_block ?_)
      obtain ⟨k_, hM⟩ := hM
      refine cwp_loop k_ (lwp_of_part (fn := Tryd.f60) (p := [1, 1, 0, 1, 0, 0, 1, 1, 0, 0, 1, 1, 0, 0]) (by kernel_rfl) (lwp_at 0 (.string y54) (by kernel_rfl) (lwp_at 2 (.pointer (some ⟨y55, 0, none⟩)) (by kernel_rfl) (lwp_at 4 (.int .i64 y56) (by kernel_rfl) (lwp_at 5 (.int .i64 0) (by kernel_rfl) (lwp_at 30 (.int .i64 y56) (by kernel_rfl) (keys_whole_l3_ok _ ?_ _ ?_ k_ y54 y55 y56 0 y56 _ _ hM)))))))
      · intro z107 z108 z109 b111 h110 hM
        refine blockE_h (blockE_n (thenE_n (cwp_region ?_)))
        refine oS [(54, .int .i64 (IntKind.wrap .i64 (z109 + 1))), (30, .int .i64 (IntKind.wrap .i64 (z109 + 1)))] rfl ?_
        refine owp_nil ?_
        exact lwp_at 0 (.string z107) (by kernel_rfl) (lwp_at 2 (.pointer (some ⟨z108, 0, none⟩)) (by kernel_rfl) (lwp_at 30 (.int .i64 (IntKind.wrap .i64 (z109 + 1))) (by kernel_rfl) (ih z107 z108 (IntKind.wrap .i64 (z109 + 1)) _ _ hM)))
      · intro z112 z113 b117 h114 hM
        refine blockE_r (blockE_r (thenE_r ?_))
        exact q_at (Q := Q .ret) 2 (.pointer (some ⟨z112, 0, none⟩)) (by kernel_rfl) (q_at (Q := Q .ret) 3 (.bool z113) (by kernel_rfl) (hKr z112 z113 _ _ hM))
    replace hM := ifF hc57 hM
    refine cwp_exit (thenE_x ?_)
    exact q_at (Q := Q (.exit 1)) 2 (.pointer (some ⟨y55, 0, none⟩)) (by kernel_rfl) (hK1 y55 _ _ hM)
def keys_whole_j1 (Kr : Nat → Bool → Heap → Prop) (y52 : ByteArray) (y53 : Nat) (h : Heap) : Prop :=
 ∃ k136, keys_whole_l2
  (fun z126 h127 =>
    stN ⟨z126, 0, none⟩ [.int .i64 0, .int .i64 0] 0 h127 fun h128 =>
      Kr z126 false h128)
  (fun z132 z133 h134 =>
      Kr z132 z133 h134) k136 y52 y53 0 h
theorem keys_whole_j1_ok {Q : Exit → Env → Heap → Prop} (Kr : Nat → Bool → Heap → Prop) (hKr : ∀ (z139 : Nat) (z140 : Bool) (b : Env) (h : Heap), Kr z139 z140 h → Q .ret (upd (upd b 2 (.pointer (some ⟨z139, 0, none⟩))) 3 (.bool z140)) h) (y52 : ByteArray) (y53 : Nat) (b : Env) (h : Heap) (hM : keys_whole_j1 Kr y52 y53 h) : cwp Tryd.prog (partC Tryd.f60 [1, 1]) 56 Q (upd (upd b 0 (.string y52)) 2 (.pointer (some ⟨y53, 0, none⟩))) h := by
  unfold keys_whole_j1 at hM
  refine cwp_part rfl ?_
  refine cwp_seq (cR ?_)
  refine oS [(30, .int .i64 0)] rfl ?_
  refine oE (cwp_block ?_)
  obtain ⟨k_, hM⟩ := hM
  refine cwp_loop k_ (lwp_of_part (fn := Tryd.f60) (p := [1, 1, 0, 1, 0, 0]) (by kernel_rfl) (lwp_at 0 (.string y52) (by kernel_rfl) (lwp_at 2 (.pointer (some ⟨y53, 0, none⟩)) (by kernel_rfl) (lwp_at 30 (.int .i64 0) (by kernel_rfl) (keys_whole_l2_ok _ ?_ _ ?_ k_ y52 y53 0 _ _ hM)))))
  · intro z126 b131 h127 hM
    refine blockE_h (thenE_n (cR ?_))
    refine oS [(55, .agg #[.int .i64 0, .int .i64 0])] rfl ?_
    refine owp_hpD rfl (by kernel_rfl) (hpSt ⟨z126, 0, none⟩ [.int .i64 0, .int .i64 0] (fun _ => by kernel_rfl) rfl hM ?_)
    intro h128 hM
    refine oS [(3, .bool false)] rfl ?_
    refine oE (cwp_ret ?_)
    exact q_at (Q := Q .ret) 2 (.pointer (some ⟨z126, 0, none⟩)) (by kernel_rfl) (q_at (Q := Q .ret) 3 (.bool false) (by kernel_rfl) (hKr z126 false _ _ hM))
  · intro z132 z133 b135 h134 hM
    refine blockE_r (thenE_r ?_)
    exact q_at (Q := Q .ret) 2 (.pointer (some ⟨z132, 0, none⟩)) (by kernel_rfl) (q_at (Q := Q .ret) 3 (.bool z133) (by kernel_rfl) (hKr z132 z133 _ _ hM))
def keys_whole (a1 : ByteArray) (K : Int → Int → Bool → Heap → Prop) (h : Heap) : Prop :=
 newB h #[.int .i64 0, .int .i64 0] 36 fun b2 h3 =>
 if (a1.toList == (⟨#[90]⟩ : ByteArray).toList) = true then
  stN ⟨b2, 0, none⟩ [.int .i64 16777239, .int .i64 0] 0 h3 fun h6 =>
  ldI h6 .i64 ⟨b2, 0, none⟩ fun x7 =>
  ldI h6 .i64 ⟨b2, 1, none⟩ fun x9 =>
  K x7 x9 true h6
 else
 if (a1.toList == (⟨#[49, 126]⟩ : ByteArray).toList) = true then
  stN ⟨b2, 0, none⟩ [.int .i64 16777221, .int .i64 0] 0 h3 fun h14 =>
  ldI h14 .i64 ⟨b2, 0, none⟩ fun x15 =>
  ldI h14 .i64 ⟨b2, 1, none⟩ fun x17 =>
  K x15 x17 true h14
 else
 if (a1.toList == (⟨#[52, 126]⟩ : ByteArray).toList) = true then
  stN ⟨b2, 0, none⟩ [.int .i64 16777222, .int .i64 0] 0 h3 fun h22 =>
  ldI h22 .i64 ⟨b2, 0, none⟩ fun x23 =>
  ldI h22 .i64 ⟨b2, 1, none⟩ fun x25 =>
  K x23 x25 true h22
 else
 if (a1.toList == (⟨#[49, 49, 126]⟩ : ByteArray).toList) = true then
  keys_whole_j0
   (fun z49 z50 h51 =>
     keys_whole_j1
      (fun z141 z142 h143 =>
        ldI h143 .i64 ⟨z141, 0, none⟩ fun x144 =>
        ldI h143 .i64 ⟨z141, 1, none⟩ fun x146 =>
            K x144 x146 z142 h143) z49 z50 h51)
   (fun z153 z154 h155 =>
     ldI h155 .i64 ⟨z153, 0, none⟩ fun x156 =>
     ldI h155 .i64 ⟨z153, 1, none⟩ fun x158 =>
       K x156 x158 z154 h155) a1 b2 (a1.toList == (⟨#[49, 49, 126]⟩ : ByteArray).toList) h3
 else
 if (a1.toList == (⟨#[49, 50, 126]⟩ : ByteArray).toList) = true then
  keys_whole_j0
   (fun z165 z166 h167 =>
     keys_whole_j1
      (fun z168 z169 h170 =>
        ldI h170 .i64 ⟨z168, 0, none⟩ fun x171 =>
        ldI h170 .i64 ⟨z168, 1, none⟩ fun x173 =>
            K x171 x173 z169 h170) z165 z166 h167)
   (fun z180 z181 h182 =>
     ldI h182 .i64 ⟨z180, 0, none⟩ fun x183 =>
     ldI h182 .i64 ⟨z180, 1, none⟩ fun x185 =>
       K x183 x185 z181 h182) a1 b2 (a1.toList == (⟨#[49, 50, 126]⟩ : ByteArray).toList) h3
 else
 if (a1.toList == (⟨#[49, 51, 126]⟩ : ByteArray).toList) = true then
  keys_whole_j0
   (fun z192 z193 h194 =>
     keys_whole_j1
      (fun z195 z196 h197 =>
        ldI h197 .i64 ⟨z195, 0, none⟩ fun x198 =>
        ldI h197 .i64 ⟨z195, 1, none⟩ fun x200 =>
            K x198 x200 z196 h197) z192 z193 h194)
   (fun z207 z208 h209 =>
     ldI h209 .i64 ⟨z207, 0, none⟩ fun x210 =>
     ldI h209 .i64 ⟨z207, 1, none⟩ fun x212 =>
       K x210 x212 z208 h209) a1 b2 (a1.toList == (⟨#[49, 51, 126]⟩ : ByteArray).toList) h3
 else
 keys_whole_j0
  (fun z218 z219 h220 =>
    keys_whole_j1
     (fun z221 z222 h223 =>
       ldI h223 .i64 ⟨z221, 0, none⟩ fun x224 =>
       ldI h223 .i64 ⟨z221, 1, none⟩ fun x226 =>
           K x224 x226 z222 h223) z218 z219 h220)
  (fun z233 z234 h235 =>
    ldI h235 .i64 ⟨z233, 0, none⟩ fun x236 =>
    ldI h235 .i64 ⟨z233, 1, none⟩ fun x238 =>
      K x236 x238 z234 h235) a1 b2 (a1.toList == (⟨#[49, 52, 126]⟩ : ByteArray).toList) h3
theorem keys_whole_ok (a1 : ByteArray) (K : Int → Int → Bool → Heap → Prop) (h : Heap) (hM : keys_whole a1 K h) : CallsH Tryd.prog 60 #[.string a1] (fun v h' => ∃ (r244 : Int) (r245 : Int) (r246 : Bool), v = .tuple #[.agg #[.int .i64 r244, .int .i64 r245], .bool r246] ∧ K r244 r245 r246 h') h := by
 unfold keys_whole at hM
 refine callsH_intro (n := 56) Tryd.func60 rfl rfl (by kernel_rfl) ?_
 refine cR ?_
 refine owp_hpG rfl (by kernel_rfl) (hpNew #[.int .i64 0, .int .i64 0] 36 (fun _ => by kernel_rfl) ?_)
 intro b2 h3 hN4
 replace hM := newB_of hN4 hM
 refine oS [(3, .bool false)] rfl ?_
 refine oE (cwp_seq (cR ?_))
 refine oS [(9, .string a1)] rfl ?_
 refine oE (cwp_block (cR ?_))
 refine oS [(11, .bool (a1.toList == (⟨#[90]⟩ : ByteArray).toList)), (10, .bool (a1.toList == (⟨#[90]⟩ : ByteArray).toList))] rfl ?_
 refine oE ?_
 refine cwp_condB (a1.toList == (⟨#[90]⟩ : ByteArray).toList) (by kernel_rfl) (fun hc5 => ?_) (fun hc5 => ?_)
 · replace hM := ifT hc5 hM
   refine cR ?_
   refine oS [(12, .agg #[.int .i64 16777239, .int .i64 0])] rfl ?_
   refine owp_hpD rfl (by kernel_rfl) (hpSt ⟨b2, 0, none⟩ [.int .i64 16777239, .int .i64 0] (fun _ => by kernel_rfl) rfl hM ?_)
   intro h6 hM
   refine oS [(3, .bool true)] rfl ?_
   refine oE (cwp_ret (blockE_r (thenE_r ?_)))
   obtain ⟨x7, hc8, hM⟩ := hM
   obtain ⟨x9, hc10, hM⟩ := hM
   exact ret_ (.tuple #[.agg #[.int .i64 x7, .int .i64 x9], .bool true]) (Eq.trans (b := (cellH h6 ⟨b2, 0, none⟩).bind fun v11 => (cellH h6 ⟨b2, 1, none⟩).bind fun v12 => some (.tuple #[.agg #[v11, v12], .bool true])) (by kernel_rfl) ((bindE hc8 _).trans (bindE hc10 _))) ⟨_, _, _, rfl, hM⟩
 replace hM := ifF hc5 hM
 refine cR ?_
 refine oS [(14, .bool (a1.toList == (⟨#[49, 126]⟩ : ByteArray).toList)), (13, .bool (a1.toList == (⟨#[49, 126]⟩ : ByteArray).toList))] rfl ?_
 refine oE ?_
 refine cwp_condB (a1.toList == (⟨#[49, 126]⟩ : ByteArray).toList) (by kernel_rfl) (fun hc13 => ?_) (fun hc13 => ?_)
 · replace hM := ifT hc13 hM
   refine cR ?_
   refine oS [(15, .agg #[.int .i64 16777221, .int .i64 0])] rfl ?_
   refine owp_hpD rfl (by kernel_rfl) (hpSt ⟨b2, 0, none⟩ [.int .i64 16777221, .int .i64 0] (fun _ => by kernel_rfl) rfl hM ?_)
   intro h14 hM
   refine oS [(3, .bool true)] rfl ?_
   refine oE (cwp_ret (blockE_r (thenE_r ?_)))
   obtain ⟨x15, hc16, hM⟩ := hM
   obtain ⟨x17, hc18, hM⟩ := hM
   exact ret_ (.tuple #[.agg #[.int .i64 x15, .int .i64 x17], .bool true]) (Eq.trans (b := (cellH h14 ⟨b2, 0, none⟩).bind fun v19 => (cellH h14 ⟨b2, 1, none⟩).bind fun v20 => some (.tuple #[.agg #[v19, v20], .bool true])) (by kernel_rfl) ((bindE hc16 _).trans (bindE hc18 _))) ⟨_, _, _, rfl, hM⟩
 replace hM := ifF hc13 hM
 refine cR ?_
 refine oS [(17, .bool (a1.toList == (⟨#[52, 126]⟩ : ByteArray).toList)), (16, .bool (a1.toList == (⟨#[52, 126]⟩ : ByteArray).toList))] rfl ?_
 refine oE ?_
 refine cwp_condB (a1.toList == (⟨#[52, 126]⟩ : ByteArray).toList) (by kernel_rfl) (fun hc21 => ?_) (fun hc21 => ?_)
 · replace hM := ifT hc21 hM
   refine cR ?_
   refine oS [(18, .agg #[.int .i64 16777222, .int .i64 0])] rfl ?_
   refine owp_hpD rfl (by kernel_rfl) (hpSt ⟨b2, 0, none⟩ [.int .i64 16777222, .int .i64 0] (fun _ => by kernel_rfl) rfl hM ?_)
   intro h22 hM
   refine oS [(3, .bool true)] rfl ?_
   refine oE (cwp_ret (blockE_r (thenE_r ?_)))
   obtain ⟨x23, hc24, hM⟩ := hM
   obtain ⟨x25, hc26, hM⟩ := hM
   exact ret_ (.tuple #[.agg #[.int .i64 x23, .int .i64 x25], .bool true]) (Eq.trans (b := (cellH h22 ⟨b2, 0, none⟩).bind fun v27 => (cellH h22 ⟨b2, 1, none⟩).bind fun v28 => some (.tuple #[.agg #[v27, v28], .bool true])) (by kernel_rfl) ((bindE hc24 _).trans (bindE hc26 _))) ⟨_, _, _, rfl, hM⟩
 replace hM := ifF hc21 hM
 refine cwp_seq (cR ?_)
 refine oS [(20, .bool (a1.toList == (⟨#[49, 49, 126]⟩ : ByteArray).toList)), (19, .bool (a1.toList == (⟨#[49, 49, 126]⟩ : ByteArray).toList))] rfl ?_
 refine oE ?_
 refine cwp_condB (a1.toList == (⟨#[49, 49, 126]⟩ : ByteArray).toList) (by kernel_rfl) (fun hc29 => ?_) (fun hc29 => ?_)
 · replace hM := ifT hc29 hM
   refine cwp_skip (thenE_n ?_)
   refine cwp_of_part (fn := Tryd.f60) (p := [1, 0, 1, 0, 1, 1, 1, 1, 1, 1, 1]) (by kernel_rfl) (cwp_at 0 (.string a1) (by kernel_rfl) (cwp_at 2 (.pointer (some ⟨b2, 0, none⟩)) (by kernel_rfl) (cwp_at 19 (.bool (a1.toList == (⟨#[49, 49, 126]⟩ : ByteArray).toList)) (by kernel_rfl) (keys_whole_j0_ok _ ?_ _ ?_ a1 b2 (a1.toList == (⟨#[49, 49, 126]⟩ : ByteArray).toList) _ _ hM))))
   · intro z49 z50 b152 h51 hM
     refine blockE_n (thenE_n ?_)
     refine cwp_of_part (fn := Tryd.f60) (p := [1, 1]) (by kernel_rfl) (cwp_at 0 (.string z49) (by kernel_rfl) (cwp_at 2 (.pointer (some ⟨z50, 0, none⟩)) (by kernel_rfl) (keys_whole_j1_ok _ ?_ z49 z50 _ _ hM)))
     · intro z141 z142 b150 h143 hM
       obtain ⟨x144, hc145, hM⟩ := hM
       obtain ⟨x146, hc147, hM⟩ := hM
       exact ret_ (.tuple #[.agg #[.int .i64 x144, .int .i64 x146], .bool z142]) (Eq.trans (b := (cellH h143 ⟨z141, 0, none⟩).bind fun v148 => (cellH h143 ⟨z141, 1, none⟩).bind fun v149 => some (.tuple #[.agg #[v148, v149], .bool z142])) (by kernel_rfl) ((bindE hc145 _).trans (bindE hc147 _))) ⟨_, _, _, rfl, hM⟩
   · intro z153 z154 b162 h155 hM
     refine blockE_r (thenE_r ?_)
     obtain ⟨x156, hc157, hM⟩ := hM
     obtain ⟨x158, hc159, hM⟩ := hM
     exact ret_ (.tuple #[.agg #[.int .i64 x156, .int .i64 x158], .bool z154]) (Eq.trans (b := (cellH h155 ⟨z153, 0, none⟩).bind fun v160 => (cellH h155 ⟨z153, 1, none⟩).bind fun v161 => some (.tuple #[.agg #[v160, v161], .bool z154])) (by kernel_rfl) ((bindE hc157 _).trans (bindE hc159 _))) ⟨_, _, _, rfl, hM⟩
 replace hM := ifF hc29 hM
 refine cR ?_
 refine oS [(21, .bool (a1.toList == (⟨#[49, 50, 126]⟩ : ByteArray).toList)), (19, .bool (a1.toList == (⟨#[49, 50, 126]⟩ : ByteArray).toList))] rfl ?_
 refine oE ?_
 refine cwp_condB (a1.toList == (⟨#[49, 50, 126]⟩ : ByteArray).toList) (by kernel_rfl) (fun hc164 => ?_) (fun hc164 => ?_)
 · replace hM := ifT hc164 hM
   refine cwp_skip (thenE_n ?_)
   refine cwp_of_part (fn := Tryd.f60) (p := [1, 0, 1, 0, 1, 1, 1, 1, 1, 1, 1]) (by kernel_rfl) (cwp_at 0 (.string a1) (by kernel_rfl) (cwp_at 2 (.pointer (some ⟨b2, 0, none⟩)) (by kernel_rfl) (cwp_at 19 (.bool (a1.toList == (⟨#[49, 50, 126]⟩ : ByteArray).toList)) (by kernel_rfl) (keys_whole_j0_ok _ ?_ _ ?_ a1 b2 (a1.toList == (⟨#[49, 50, 126]⟩ : ByteArray).toList) _ _ hM))))
   · intro z165 z166 b179 h167 hM
     refine blockE_n (thenE_n ?_)
     refine cwp_of_part (fn := Tryd.f60) (p := [1, 1]) (by kernel_rfl) (cwp_at 0 (.string z165) (by kernel_rfl) (cwp_at 2 (.pointer (some ⟨z166, 0, none⟩)) (by kernel_rfl) (keys_whole_j1_ok _ ?_ z165 z166 _ _ hM)))
     · intro z168 z169 b177 h170 hM
       obtain ⟨x171, hc172, hM⟩ := hM
       obtain ⟨x173, hc174, hM⟩ := hM
       exact ret_ (.tuple #[.agg #[.int .i64 x171, .int .i64 x173], .bool z169]) (Eq.trans (b := (cellH h170 ⟨z168, 0, none⟩).bind fun v175 => (cellH h170 ⟨z168, 1, none⟩).bind fun v176 => some (.tuple #[.agg #[v175, v176], .bool z169])) (by kernel_rfl) ((bindE hc172 _).trans (bindE hc174 _))) ⟨_, _, _, rfl, hM⟩
   · intro z180 z181 b189 h182 hM
     refine blockE_r (thenE_r ?_)
     obtain ⟨x183, hc184, hM⟩ := hM
     obtain ⟨x185, hc186, hM⟩ := hM
     exact ret_ (.tuple #[.agg #[.int .i64 x183, .int .i64 x185], .bool z181]) (Eq.trans (b := (cellH h182 ⟨z180, 0, none⟩).bind fun v187 => (cellH h182 ⟨z180, 1, none⟩).bind fun v188 => some (.tuple #[.agg #[v187, v188], .bool z181])) (by kernel_rfl) ((bindE hc184 _).trans (bindE hc186 _))) ⟨_, _, _, rfl, hM⟩
 replace hM := ifF hc164 hM
 refine cR ?_
 refine oS [(22, .bool (a1.toList == (⟨#[49, 51, 126]⟩ : ByteArray).toList)), (19, .bool (a1.toList == (⟨#[49, 51, 126]⟩ : ByteArray).toList))] rfl ?_
 refine oE ?_
 refine cwp_condB (a1.toList == (⟨#[49, 51, 126]⟩ : ByteArray).toList) (by kernel_rfl) (fun hc191 => ?_) (fun hc191 => ?_)
 · replace hM := ifT hc191 hM
   refine cwp_skip (thenE_n ?_)
   refine cwp_of_part (fn := Tryd.f60) (p := [1, 0, 1, 0, 1, 1, 1, 1, 1, 1, 1]) (by kernel_rfl) (cwp_at 0 (.string a1) (by kernel_rfl) (cwp_at 2 (.pointer (some ⟨b2, 0, none⟩)) (by kernel_rfl) (cwp_at 19 (.bool (a1.toList == (⟨#[49, 51, 126]⟩ : ByteArray).toList)) (by kernel_rfl) (keys_whole_j0_ok _ ?_ _ ?_ a1 b2 (a1.toList == (⟨#[49, 51, 126]⟩ : ByteArray).toList) _ _ hM))))
   · intro z192 z193 b206 h194 hM
     refine blockE_n (thenE_n ?_)
     refine cwp_of_part (fn := Tryd.f60) (p := [1, 1]) (by kernel_rfl) (cwp_at 0 (.string z192) (by kernel_rfl) (cwp_at 2 (.pointer (some ⟨z193, 0, none⟩)) (by kernel_rfl) (keys_whole_j1_ok _ ?_ z192 z193 _ _ hM)))
     · intro z195 z196 b204 h197 hM
       obtain ⟨x198, hc199, hM⟩ := hM
       obtain ⟨x200, hc201, hM⟩ := hM
       exact ret_ (.tuple #[.agg #[.int .i64 x198, .int .i64 x200], .bool z196]) (Eq.trans (b := (cellH h197 ⟨z195, 0, none⟩).bind fun v202 => (cellH h197 ⟨z195, 1, none⟩).bind fun v203 => some (.tuple #[.agg #[v202, v203], .bool z196])) (by kernel_rfl) ((bindE hc199 _).trans (bindE hc201 _))) ⟨_, _, _, rfl, hM⟩
   · intro z207 z208 b216 h209 hM
     refine blockE_r (thenE_r ?_)
     obtain ⟨x210, hc211, hM⟩ := hM
     obtain ⟨x212, hc213, hM⟩ := hM
     exact ret_ (.tuple #[.agg #[.int .i64 x210, .int .i64 x212], .bool z208]) (Eq.trans (b := (cellH h209 ⟨z207, 0, none⟩).bind fun v214 => (cellH h209 ⟨z207, 1, none⟩).bind fun v215 => some (.tuple #[.agg #[v214, v215], .bool z208])) (by kernel_rfl) ((bindE hc211 _).trans (bindE hc213 _))) ⟨_, _, _, rfl, hM⟩
 replace hM := ifF hc191 hM
 refine cwp_region ?_
 refine oS [(23, .bool (a1.toList == (⟨#[49, 52, 126]⟩ : ByteArray).toList)), (19, .bool (a1.toList == (⟨#[49, 52, 126]⟩ : ByteArray).toList))] rfl ?_
 refine oE ?_
 refine cwp_of_part (fn := Tryd.f60) (p := [1, 0, 1, 0, 1, 1, 1, 1, 1, 1, 1]) (by kernel_rfl) (cwp_at 0 (.string a1) (by kernel_rfl) (cwp_at 2 (.pointer (some ⟨b2, 0, none⟩)) (by kernel_rfl) (cwp_at 19 (.bool (a1.toList == (⟨#[49, 52, 126]⟩ : ByteArray).toList)) (by kernel_rfl) (keys_whole_j0_ok _ ?_ _ ?_ a1 b2 (a1.toList == (⟨#[49, 52, 126]⟩ : ByteArray).toList) _ _ hM))))
 · intro z218 z219 b232 h220 hM
   refine blockE_n (thenE_n ?_)
   refine cwp_of_part (fn := Tryd.f60) (p := [1, 1]) (by kernel_rfl) (cwp_at 0 (.string z218) (by kernel_rfl) (cwp_at 2 (.pointer (some ⟨z219, 0, none⟩)) (by kernel_rfl) (keys_whole_j1_ok _ ?_ z218 z219 _ _ hM)))
   · intro z221 z222 b230 h223 hM
     obtain ⟨x224, hc225, hM⟩ := hM
     obtain ⟨x226, hc227, hM⟩ := hM
     exact ret_ (.tuple #[.agg #[.int .i64 x224, .int .i64 x226], .bool z222]) (Eq.trans (b := (cellH h223 ⟨z221, 0, none⟩).bind fun v228 => (cellH h223 ⟨z221, 1, none⟩).bind fun v229 => some (.tuple #[.agg #[v228, v229], .bool z222])) (by kernel_rfl) ((bindE hc225 _).trans (bindE hc227 _))) ⟨_, _, _, rfl, hM⟩
 · intro z233 z234 b242 h235 hM
   refine blockE_r (thenE_r ?_)
   obtain ⟨x236, hc237, hM⟩ := hM
   obtain ⟨x238, hc239, hM⟩ := hM
   exact ret_ (.tuple #[.agg #[.int .i64 x236, .int .i64 x238], .bool z234]) (Eq.trans (b := (cellH h235 ⟨z233, 0, none⟩).bind fun v240 => (cellH h235 ⟨z233, 1, none⟩).bind fun v241 => some (.tuple #[.agg #[v240, v241], .bool z234])) (by kernel_rfl) ((bindE hc237 _).trans (bindE hc239 _))) ⟨_, _, _, rfl, hM⟩
/- mullion/keys.sequence -/
def keys_sequence_l0 (K0 : ByteArray → Nat → Heap → Prop) (Kr : Nat → Bool → Int → Heap → Prop) : Nat → ByteArray → Nat → Int → Heap → Prop
  | 0, _, _, _, _ => False
  | k + 1, y5, y6, y7, h =>
  if y7 < (y5.size : Int) then
   if 256 ≤ y7 then
    stN ⟨y6, 0, none⟩ [.int .i64 0, .int .i64 0] 0 h fun h10 =>
    Kr y6 false 256 h10
   else
   0 ≤ y7 ∧
   y7 < (y5.size : Int) ∧
   ((decide (64 ≤ (byteAt y5 y7))) = true → 0 ≤ y7) ∧
   ((decide (64 ≤ (byteAt y5 y7))) = true → y7 < (y5.size : Int)) ∧
   if ((decide (64 ≤ (byteAt y5 y7))) && (decide ((byteAt y5 y7) ≤ 126))) = true then
    0 ≤ (IntKind.wrap .i64 (y7 + 1)) ∧
    (IntKind.wrap .i64 (y7 + 1)) ≤ (y5.size : Int) ∧
    (2 : Int) ≤ (IntKind.wrap .i64 (y7 + 1)) ∧
    keys_whole (y5.extract ((2 : Int).toNat) ((IntKind.wrap .i64 (y7 + 1)).toNat)) (fun x29 x30 x31 h28 =>
     gap h28 fun h35 =>
     stN ⟨y6, 0, none⟩ [.int .i64 x29, .int .i64 x30] 0 h35 fun h40 =>
      Kr y6 x31 (IntKind.wrap .i64 (y7 + 1)) h40) h
   else
   0 ≤ y7 ∧
   y7 < (y5.size : Int) ∧
   ((decide ((byteAt y5 y7) < 32)) = false → 0 ≤ y7) ∧
   ((decide ((byteAt y5 y7) < 32)) = false → y7 < (y5.size : Int)) ∧
   if ((decide ((byteAt y5 y7) < 32)) || (decide (63 < (byteAt y5 y7)))) = true then
    stN ⟨y6, 0, none⟩ [.int .i64 0, .int .i64 0] 0 h fun h52 =>
    Kr y6 false y7 h52
   else
   keys_sequence_l0 K0 Kr k y5 y6 (IntKind.wrap .i64 (y7 + 1)) h
  else
  K0 y5 y6 h
theorem keys_sequence_l0_ok {Q : Exit → Env → Heap → Prop} (K0 : ByteArray → Nat → Heap → Prop) (hK0 : ∀ (z57 : ByteArray) (z58 : Nat) (b : Env) (h : Heap), K0 z57 z58 h → Q (.exit 0) (upd (upd b 0 (.string z57)) 2 (.pointer (some ⟨z58, 0, none⟩))) h) (Kr : Nat → Bool → Int → Heap → Prop) (hKr : ∀ (z62 : Nat) (z63 : Bool) (z64 : Int) (b : Env) (h : Heap), Kr z62 z63 z64 h → Q .ret (upd (upd (upd b 2 (.pointer (some ⟨z62, 0, none⟩))) 3 (.bool z63)) 4 (.int .i64 z64)) h) : ∀ (k : Nat) (y5 : ByteArray) (y6 : Nat) (y7 : Int) (b : Env) (h : Heap) (hM : keys_sequence_l0 K0 Kr k y5 y6 y7 h), lwp Tryd.prog (partC Tryd.f48 [1, 0, 1, 0, 0]) 59 Q k (upd (upd (upd b 0 (.string y5)) 2 (.pointer (some ⟨y6, 0, none⟩))) 5 (.int .i64 y7)) h := by
  intro k
  induction k with
  | zero => intro y5 y6 y7 b h hM; exact (show False from hM).elim
  | succ k ih =>
    intro y5 y6 y7 b h hM
    unfold keys_sequence_l0 at hM
    refine lwp_succ (cwp_part rfl ?_)
    refine cwp_seq (cR ?_)
    refine oS [(8, .int .i64 y7), (9, .string y5), (10, .int .i64 (y5.size : Int)), (11, .bool (decide (y7 < (y5.size : Int))))] rfl ?_
    refine oE ?_
    refine cwp_condD (y7 < (y5.size : Int)) (by kernel_rfl) (fun hc8 => ?_) (fun hc8 => ?_)
    · replace hM := ifT hc8 hM
      refine cwp_skip (thenE_n (cwp_seq (cwp_block (cwp_block (cR ?_)))))
      refine oS [(15, .int .i64 y7), (16, .bool (decide (256 ≤ y7))), (14, .bool (decide (256 ≤ y7)))] rfl ?_
      refine oE ?_
      refine cwp_condD (256 ≤ y7) (by kernel_rfl) (fun hc9 => ?_) (fun hc9 => ?_)
      · replace hM := ifT hc9 hM
        refine cR ?_
        refine oS [(17, .agg #[.int .i64 0, .int .i64 0])] rfl ?_
        refine owp_hpD rfl (by kernel_rfl) (hpSt ⟨y6, 0, none⟩ [.int .i64 0, .int .i64 0] (fun _ => by kernel_rfl) rfl hM ?_)
        intro h10 hM
        refine oS [(3, .bool false), (4, .int .i64 256)] rfl ?_
        refine oE (cwp_ret (blockE_r (blockE_r (thenE_r ?_))))
        exact q_at (Q := Q .ret) 2 (.pointer (some ⟨y6, 0, none⟩)) (by kernel_rfl) (q_at (Q := Q .ret) 3 (.bool false) (by kernel_rfl) (q_at (Q := Q .ret) 4 (.int .i64 256) (by kernel_rfl) (hKr y6 false 256 _ _ hM)))
      replace hM := ifF hc9 hM
      refine cR ?_
      refine oS [(19, .string y5), (20, .int .i64 y7)] rfl ?_
      obtain ⟨hc14, hM⟩ := hM
      obtain ⟨hc15, hM⟩ := hM
      refine owp_rdG (.int .u8 (byteAt y5 y7)) rfl (by kernel_rfl) (rd_ixStr (P := Tryd.prog) (h := h) (t := 9) (s := y5) (k := .i64) (i := y7) (by kernel_rfl) hc14 hc15 (by kernel_rfl)) ?_
      refine oS [(22, .bool (decide (64 ≤ (byteAt y5 y7)))), (23, .bool (decide (64 ≤ (byteAt y5 y7))))] rfl ?_
      obtain ⟨hc20, hM⟩ := hM
      obtain ⟨hc21, hM⟩ := hM
      refine oB (decide (64 ≤ (byteAt y5 y7))) 5 [22, 23] (fun b_ => [(24, iteV b_ (.string y5 : Value) undef), (25, iteV b_ (.int .i64 y7 : Value) undef), (26, iteV b_ (.int .u8 (byteAt y5 y7) : Value) undef), (27, iteV b_ (.bool (decide ((byteAt y5 y7) ≤ 126)) : Value) undef), (28, .bool (b_ && (decide ((byteAt y5 y7) ≤ 126))))]) rfl (fun hb18 hq19 => have hc16 := hc20 hb18; have hc17 := hc21 hb18; oS [(24, .string y5), (25, .int .i64 y7)] rfl (owp_rdG (.int .u8 (byteAt y5 y7)) rfl (by kernel_rfl) (rd_ixStr (P := Tryd.prog) (h := h) (t := 9) (s := y5) (k := .i64) (i := y7) (by kernel_rfl) hc16 hc17 (by kernel_rfl)) (oS [(27, .bool (decide ((byteAt y5 y7) ≤ 126))), (28, .bool (decide ((byteAt y5 y7) ≤ 126)))] rfl (hq19)))) (fun hb22 hq23 => oS [(24, undef), (25, undef), (26, undef), (27, undef), (28, .bool false)] rfl (hq23)) ?_
      refine oS [(18, .bool ((decide (64 ≤ (byteAt y5 y7))) && (decide ((byteAt y5 y7) ≤ 126))))] rfl ?_
      refine oE ?_
      refine cwp_condB ((decide (64 ≤ (byteAt y5 y7))) && (decide ((byteAt y5 y7) ≤ 126))) (by kernel_rfl) (fun hc24 => ?_) (fun hc24 => ?_)
      · replace hM := ifT hc24 hM
        refine cR ?_
        refine oS [(30, .string y5), (31, .int .i64 y7), (32, .int .i64 (IntKind.wrap .i64 (y7 + 1)))] rfl ?_
        obtain ⟨hc25, hM⟩ := hM
        obtain ⟨hc26, hM⟩ := hM
        obtain ⟨hc27, hM⟩ := hM
        refine owp_rdG (.string (y5.extract ((2 : Int).toNat) ((IntKind.wrap .i64 (y7 + 1)).toNat))) rfl (by kernel_rfl) (rd_slLH (P := Tryd.prog) (h := h) (t := 9) (s := y5) (k := .i64) (k' := .i64) (i := (2 : Int)) (j := (IntKind.wrap .i64 (y7 + 1))) (by kernel_rfl) hc25 hc26 (by decide) hc27 (by kernel_rfl)) ?_
        refine owp_hpG rfl (by kernel_rfl) (hpCallE 60 #[.string (y5.extract ((2 : Int).toNat) ((IntKind.wrap .i64 (y7 + 1)).toNat))] (by kernel_rfl) (keys_whole_ok (y5.extract ((2 : Int).toNat) ((IntKind.wrap .i64 (y7 + 1)).toNat)) _ h hM) ?_)
        rintro _ h28 ⟨x29, x30, x31, rfl, hM⟩
        refine oS [(29, .tuple #[.agg #[.int .i64 x29, .int .i64 x30], .bool x31]), (35, .agg #[.int .i64 x29, .int .i64 x30]), (36, .bool x31)] rfl ?_
        refine owp_hpG rfl (by kernel_rfl) (hpNew #[.int .i64 0, .int .i64 0] 36 (fun _ => by kernel_rfl) ?_)
        intro b32 h33 hN34
        refine owp_hpD rfl (by kernel_rfl) (hpStB b32 0 [.int .i64 x29, .int .i64 x30] (New.blk hN34) (fun _ => by kernel_rfl) rfl rfl ?_)
        intro h35 hP36
        have f37 : Blk h35 b32 #[.int .i64 x29, .int .i64 x30] 36 := hP36.blk
        refine oS [(7, .bool x31)] rfl ?_
        refine oE (cR ?_)
        refine owp_rdG (.agg #[.int .i64 x29, .int .i64 x30]) rfl (by kernel_rfl) (Eq.trans (b := (cellH h35 ⟨b32, 0, none⟩).bind fun v38 => (cellH h35 ⟨b32, 1, none⟩).bind fun v39 => some (.value (.agg #[v38, v39]))) (by kernel_rfl) ((bindE (Blk.cell f37 0 (by kernel_rfl)) _).trans (bindE (Blk.cell f37 1 (by kernel_rfl)) _))) ?_
        refine oS [(38, .bool x31), (39, .int .i64 y7), (40, .int .i64 (IntKind.wrap .i64 (y7 + 1)))] rfl ?_
        replace hM := hM _ (Put.ext hP36 (New.ext hN34) (New.ge hN34 (Ext.refl _)))
        refine owp_hpD rfl (by kernel_rfl) (hpSt ⟨y6, 0, none⟩ [.int .i64 x29, .int .i64 x30] (fun _ => by kernel_rfl) rfl hM ?_)
        intro h40 hM
        refine oS [(3, .bool x31), (4, .int .i64 (IntKind.wrap .i64 (y7 + 1)))] rfl ?_
        refine oE (cwp_ret (blockE_r (blockE_r (thenE_r ?_))))
        exact q_at (Q := Q .ret) 2 (.pointer (some ⟨y6, 0, none⟩)) (by kernel_rfl) (q_at (Q := Q .ret) 3 (.bool x31) (by kernel_rfl) (q_at (Q := Q .ret) 4 (.int .i64 (IntKind.wrap .i64 (y7 + 1))) (by kernel_rfl) (hKr y6 x31 (IntKind.wrap .i64 (y7 + 1)) _ _ hM)))
      replace hM := ifF hc24 hM
      refine cR ?_
      refine oS [(42, .string y5), (43, .int .i64 y7)] rfl ?_
      obtain ⟨hc41, hM⟩ := hM
      obtain ⟨hc42, hM⟩ := hM
      refine owp_rdG (.int .u8 (byteAt y5 y7)) rfl (by kernel_rfl) (rd_ixStr (P := Tryd.prog) (h := h) (t := 9) (s := y5) (k := .i64) (i := y7) (by kernel_rfl) hc41 hc42 (by kernel_rfl)) ?_
      refine oS [(45, .bool (decide ((byteAt y5 y7) < 32))), (46, .bool (decide ((byteAt y5 y7) < 32)))] rfl ?_
      obtain ⟨hc49, hM⟩ := hM
      obtain ⟨hc50, hM⟩ := hM
      refine oB (decide ((byteAt y5 y7) < 32)) 5 [45, 46] (fun b_ => [(47, iteV b_ undef (.string y5 : Value)), (48, iteV b_ undef (.int .i64 y7 : Value)), (49, iteV b_ undef (.int .u8 (byteAt y5 y7) : Value)), (50, iteV b_ undef (.bool (decide (63 < (byteAt y5 y7))) : Value)), (51, .bool (b_ || (decide (63 < (byteAt y5 y7)))))]) rfl (fun hb45 hq46 => oS [(47, undef), (48, undef), (49, undef), (50, undef), (51, .bool true)] rfl (hq46)) (fun hb47 hq48 => have hc43 := hc49 hb47; have hc44 := hc50 hb47; oS [(47, .string y5), (48, .int .i64 y7)] rfl (owp_rdG (.int .u8 (byteAt y5 y7)) rfl (by kernel_rfl) (rd_ixStr (P := Tryd.prog) (h := h) (t := 9) (s := y5) (k := .i64) (i := y7) (by kernel_rfl) hc43 hc44 (by kernel_rfl)) (oS [(50, .bool (decide (63 < (byteAt y5 y7)))), (51, .bool (decide (63 < (byteAt y5 y7))))] rfl (hq48)))) ?_
      refine oS [(41, .bool ((decide ((byteAt y5 y7) < 32)) || (decide (63 < (byteAt y5 y7)))))] rfl ?_
      refine oE ?_
      refine cwp_condB ((decide ((byteAt y5 y7) < 32)) || (decide (63 < (byteAt y5 y7)))) (by kernel_rfl) (fun hc51 => ?_) (fun hc51 => ?_)
      · replace hM := ifT hc51 hM
        refine cR ?_
        refine oS [(52, .agg #[.int .i64 0, .int .i64 0]), (53, .int .i64 y7)] rfl ?_
        refine owp_hpD rfl (by kernel_rfl) (hpSt ⟨y6, 0, none⟩ [.int .i64 0, .int .i64 0] (fun _ => by kernel_rfl) rfl hM ?_)
        intro h52 hM
        refine oS [(3, .bool false), (4, .int .i64 y7)] rfl ?_
        refine oE (cwp_ret (blockE_r (blockE_r (thenE_r ?_))))
        exact q_at (Q := Q .ret) 2 (.pointer (some ⟨y6, 0, none⟩)) (by kernel_rfl) (q_at (Q := Q .ret) 3 (.bool false) (by kernel_rfl) (q_at (Q := Q .ret) 4 (.int .i64 y7) (by kernel_rfl) (hKr y6 false y7 _ _ hM)))
      replace hM := ifF hc51 hM
      refine cwp_skip (blockE_n (blockE_n (thenE_n (cwp_region ?_))))
      refine oS [(12, .int .i64 y7), (13, .int .i64 (IntKind.wrap .i64 (y7 + 1))), (5, .int .i64 (IntKind.wrap .i64 (y7 + 1)))] rfl ?_
      refine owp_nil ?_
      exact lwp_at 0 (.string y5) (by kernel_rfl) (lwp_at 2 (.pointer (some ⟨y6, 0, none⟩)) (by kernel_rfl) (lwp_at 5 (.int .i64 (IntKind.wrap .i64 (y7 + 1))) (by kernel_rfl) (ih y5 y6 (IntKind.wrap .i64 (y7 + 1)) _ _ hM)))
    replace hM := ifF hc8 hM
    refine cwp_exit (thenE_x ?_)
    exact q_at (Q := Q (.exit 0)) 0 (.string y5) (by kernel_rfl) (q_at (Q := Q (.exit 0)) 2 (.pointer (some ⟨y6, 0, none⟩)) (by kernel_rfl) (hK0 y5 y6 _ _ hM))
def keys_sequence (a1 : ByteArray) (K : Int → Int → Bool → Int → Heap → Prop) (h : Heap) : Prop :=
 newB h #[.int .i64 0, .int .i64 0] 36 fun b2 h3 =>
 ∃ k95, keys_sequence_l0
  (fun z65 z66 h67 =>
    if 256 ≤ (z65.size : Int) then
     stN ⟨z66, 0, none⟩ [.int .i64 0, .int .i64 0] 0 h67 fun h69 =>
     ldI h69 .i64 ⟨z66, 0, none⟩ fun x70 =>
     ldI h69 .i64 ⟨z66, 1, none⟩ fun x72 =>
     K x70 x72 false 256 h69
    else
    stN ⟨z66, 0, none⟩ [.int .i64 0, .int .i64 0] 0 h67 fun h76 =>
    ldI h76 .i64 ⟨z66, 0, none⟩ fun x77 =>
    ldI h76 .i64 ⟨z66, 1, none⟩ fun x79 =>
      K x77 x79 false 0 h76)
  (fun z84 z85 z86 h87 =>
    ldI h87 .i64 ⟨z84, 0, none⟩ fun x88 =>
    ldI h87 .i64 ⟨z84, 1, none⟩ fun x90 =>
      K x88 x90 z85 z86 h87) k95 a1 b2 2 h3
theorem keys_sequence_ok (a1 : ByteArray) (K : Int → Int → Bool → Int → Heap → Prop) (h : Heap) (hM : keys_sequence a1 K h) : CallsH Tryd.prog 48 #[.string a1] (fun v h' => ∃ (r96 : Int) (r97 : Int) (r98 : Bool) (r99 : Int), v = .tuple #[.agg #[.int .i64 r96, .int .i64 r97], .bool r98, .int .i64 r99] ∧ K r96 r97 r98 r99 h') h := by
 unfold keys_sequence at hM
 refine callsH_intro (n := 59) Tryd.func48 rfl rfl (by kernel_rfl) ?_
 refine cR ?_
 refine owp_hpG rfl (by kernel_rfl) (hpNew #[.int .i64 0, .int .i64 0] 36 (fun _ => by kernel_rfl) ?_)
 intro b2 h3 hN4
 replace hM := newB_of hN4 hM
 refine oS [(3, .bool false), (4, .int .i64 0)] rfl ?_
 refine oE (cwp_seq (cR ?_))
 refine oS [(5, .int .i64 2)] rfl ?_
 refine oE (cwp_block ?_)
 obtain ⟨k_, hM⟩ := hM
 refine cwp_loop k_ (lwp_of_part (fn := Tryd.f48) (p := [1, 0, 1, 0, 0]) (by kernel_rfl) (lwp_at 0 (.string a1) (by kernel_rfl) (lwp_at 2 (.pointer (some ⟨b2, 0, none⟩)) (by kernel_rfl) (lwp_at 5 (.int .i64 2) (by kernel_rfl) (keys_sequence_l0_ok _ ?_ _ ?_ k_ a1 b2 2 _ _ hM)))))
 · intro z65 z66 b83 h67 hM
   refine blockE_h (thenE_n (cwp_seq (cR ?_)))
   refine oS [(54, .string z65), (55, .int .i64 (z65.size : Int)), (56, .bool (decide (256 ≤ (z65.size : Int))))] rfl ?_
   refine oE ?_
   refine cwp_condD (256 ≤ (z65.size : Int)) (by kernel_rfl) (fun hc68 => ?_) (fun hc68 => ?_)
   · replace hM := ifT hc68 hM
     refine cR ?_
     refine oS [(57, .agg #[.int .i64 0, .int .i64 0])] rfl ?_
     refine owp_hpD rfl (by kernel_rfl) (hpSt ⟨z66, 0, none⟩ [.int .i64 0, .int .i64 0] (fun _ => by kernel_rfl) rfl hM ?_)
     intro h69 hM
     refine oS [(3, .bool false), (4, .int .i64 256)] rfl ?_
     refine oE (cwp_ret (thenE_r ?_))
     obtain ⟨x70, hc71, hM⟩ := hM
     obtain ⟨x72, hc73, hM⟩ := hM
     exact ret_ (.tuple #[.agg #[.int .i64 x70, .int .i64 x72], .bool false, .int .i64 256]) (Eq.trans (b := (cellH h69 ⟨z66, 0, none⟩).bind fun v74 => (cellH h69 ⟨z66, 1, none⟩).bind fun v75 => some (.tuple #[.agg #[v74, v75], .bool false, .int .i64 256])) (by kernel_rfl) ((bindE hc71 _).trans (bindE hc73 _))) ⟨_, _, _, _, rfl, hM⟩
   replace hM := ifF hc68 hM
   refine cwp_skip (thenE_n (cR ?_))
   refine oS [(58, .agg #[.int .i64 0, .int .i64 0])] rfl ?_
   refine owp_hpD rfl (by kernel_rfl) (hpSt ⟨z66, 0, none⟩ [.int .i64 0, .int .i64 0] (fun _ => by kernel_rfl) rfl hM ?_)
   intro h76 hM
   refine oS [(3, .bool false), (4, .int .i64 0)] rfl ?_
   refine oE (cwp_ret ?_)
   obtain ⟨x77, hc78, hM⟩ := hM
   obtain ⟨x79, hc80, hM⟩ := hM
   exact ret_ (.tuple #[.agg #[.int .i64 x77, .int .i64 x79], .bool false, .int .i64 0]) (Eq.trans (b := (cellH h76 ⟨z66, 0, none⟩).bind fun v81 => (cellH h76 ⟨z66, 1, none⟩).bind fun v82 => some (.tuple #[.agg #[v81, v82], .bool false, .int .i64 0])) (by kernel_rfl) ((bindE hc78 _).trans (bindE hc80 _))) ⟨_, _, _, _, rfl, hM⟩
 · intro z84 z85 z86 b94 h87 hM
   refine blockE_r (thenE_r ?_)
   obtain ⟨x88, hc89, hM⟩ := hM
   obtain ⟨x90, hc91, hM⟩ := hM
   exact ret_ (.tuple #[.agg #[.int .i64 x88, .int .i64 x90], .bool z85, .int .i64 z86]) (Eq.trans (b := (cellH h87 ⟨z84, 0, none⟩).bind fun v92 => (cellH h87 ⟨z84, 1, none⟩).bind fun v93 => some (.tuple #[.agg #[v92, v93], .bool z85, .int .i64 z86])) (by kernel_rfl) ((bindE hc89 _).trans (bindE hc91 _))) ⟨_, _, _, _, rfl, hM⟩
/- mullion/keys.letter -/
def keys_letter_l0 (K0 : Nat → Heap → Prop) (Kr : Nat → Bool → Heap → Prop) : Nat → Int → Nat → Int → Heap → Prop
  | 0, _, _, _, _ => False
  | k + 1, y6, y7, y8, h =>
  if y8 < 22 then
   0 ≤ y8 ∧
   y8 < (22 : Int) ∧
   if ((decide (((tab0.getD (y8).toNat tab0d).2.1) = y6)) && (!decide (y6 = 0))) = true then
    gap h fun h15 =>
    stN ⟨y7, 0, none⟩ [.int .i64 (IntKind.wrap .i64 (16777217 + y8)), .int .i64 0] 0 h15 fun h24 =>
    Kr y7 true h24
   else
   gap h fun h15 =>
   keys_letter_l0 K0 Kr k y6 y7 (IntKind.wrap .i64 (y8 + 1)) h15
  else
  K0 y7 h
theorem keys_letter_l0_ok {Q : Exit → Env → Heap → Prop} (K0 : Nat → Heap → Prop) (hK0 : ∀ (z29 : Nat) (b : Env) (h : Heap), K0 z29 h → Q (.exit 0) (upd b 2 (.pointer (some ⟨z29, 0, none⟩))) h) (Kr : Nat → Bool → Heap → Prop) (hKr : ∀ (z32 : Nat) (z33 : Bool) (b : Env) (h : Heap), Kr z32 z33 h → Q .ret (upd (upd b 2 (.pointer (some ⟨z32, 0, none⟩))) 3 (.bool z33)) h) : ∀ (k : Nat) (y6 : Int) (y7 : Nat) (y8 : Int) (b : Env) (h : Heap) (hM : keys_letter_l0 K0 Kr k y6 y7 y8 h), lwp Tryd.prog (partC Tryd.f49 [1, 0, 1, 0, 0]) 24 Q k (upd (upd (upd (upd b 0 (.int .u8 y6)) 2 (.pointer (some ⟨y7, 0, none⟩))) 6 ((.agg (tab0.flatMap tab0f).toArray))) 7 (.int .i64 y8)) h := by
  intro k
  induction k with
  | zero => intro y6 y7 y8 b h hM; exact (show False from hM).elim
  | succ k ih =>
    intro y6 y7 y8 b h hM
    unfold keys_letter_l0 at hM
    refine lwp_succ (cwp_part rfl ?_)
    refine cR ?_
    refine oS [(8, .bool (decide (y8 < 22)))] rfl ?_
    refine oE (cwp_seq ?_)
    refine cwp_condD (y8 < 22) (by kernel_rfl) (fun hc9 => ?_) (fun hc9 => ?_)
    · replace hM := ifT hc9 hM
      refine cwp_skip (thenE_n (cwp_seq (cwp_block (cR ?_))))
      refine oS [(9, .int .i64 y8)] rfl ?_
      obtain ⟨hc10, hM⟩ := hM
      obtain ⟨hc11, hM⟩ := hM
      refine owp_rdG (.agg #[.string ((tab0.getD (y8).toNat tab0d).1), .int .u8 ((tab0.getD (y8).toNat tab0d).2.1), .int .i64 ((tab0.getD (y8).toNat tab0d).2.2.1), .bool ((tab0.getD (y8).toNat tab0d).2.2.2)]) rfl (by kernel_rfl) (rd_ixTab (P := Tryd.prog) (h := h) (t := 69) (el := 68) (sz := 4) (len := 22) (k := .i64) (i := y8) tab0f tab0 tab0d (fun _ => rfl) (by kernel_rfl) (by kernel_rfl) (by kernel_rfl) Tryd.underlying68 hc10 hc11 (by kernel_rfl)) ?_
      refine owp_hpG rfl (by kernel_rfl) (hpNew #[.string (⟨#[]⟩ : ByteArray), .int .u8 0, .int .i64 0, .bool false] 68 (fun _ => by kernel_rfl) ?_)
      intro b12 h13 hN14
      refine oS [(4, .int .i64 y8)] rfl ?_
      refine owp_hpD rfl (by kernel_rfl) (hpStB b12 0 [.string ((tab0.getD (y8).toNat tab0d).1), .int .u8 ((tab0.getD (y8).toNat tab0d).2.1), .int .i64 ((tab0.getD (y8).toNat tab0d).2.2.1), .bool ((tab0.getD (y8).toNat tab0d).2.2.2)] (New.blk hN14) (fun _ => by kernel_rfl) rfl rfl ?_)
      intro h15 hP16
      have f17 : Blk h15 b12 #[.string ((tab0.getD (y8).toNat tab0d).1), .int .u8 ((tab0.getD (y8).toNat tab0d).2.1), .int .i64 ((tab0.getD (y8).toNat tab0d).2.2.1), .bool ((tab0.getD (y8).toNat tab0d).2.2.2)] 68 := hP16.blk
      refine oE (cR ?_)
      refine oS [(11, .pointer (some ⟨b12, 1, none⟩))] rfl ?_
      refine owp_rdG (.int .u8 ((tab0.getD (y8).toNat tab0d).2.1)) rfl (by kernel_rfl) (Eq.trans (b := (cellH h15 ⟨b12, 1, none⟩).bind fun v18 => some (.value v18)) (by kernel_rfl) (bindE (Blk.cell f17 1 (by kernel_rfl)) _)) ?_
      refine oS [(13, .int .u8 y6), (14, .bool (decide (((tab0.getD (y8).toNat tab0d).2.1) = y6))), (15, .bool (decide (((tab0.getD (y8).toNat tab0d).2.1) = y6)))] rfl ?_
      refine oB (decide (((tab0.getD (y8).toNat tab0d).2.1) = y6)) 3 [14, 15] (fun b_ => [(16, iteV b_ (.int .u8 y6 : Value) undef), (17, iteV b_ (.bool (!decide (y6 = 0)) : Value) undef), (18, .bool (b_ && (!decide (y6 = 0))))]) rfl (fun hb19 hq20 => oS [(16, .int .u8 y6), (17, .bool (!decide (y6 = 0))), (18, .bool (!decide (y6 = 0)))] rfl (hq20)) (fun hb21 hq22 => oS [(16, undef), (17, undef), (18, .bool false)] rfl (hq22)) ?_
      refine oE ?_
      refine cwp_condB ((decide (((tab0.getD (y8).toNat tab0d).2.1) = y6)) && (!decide (y6 = 0))) (by kernel_rfl) (fun hc23 => ?_) (fun hc23 => ?_)
      · replace hM := ifT hc23 hM
        refine cR ?_
        refine oS [(19, .int .i64 y8), (20, .int .i64 (IntKind.wrap .i64 (16777217 + y8))), (21, .agg #[.int .i64 (IntKind.wrap .i64 (16777217 + y8)), .int .i64 0])] rfl ?_
        replace hM := hM _ (Put.ext hP16 (New.ext hN14) (New.ge hN14 (Ext.refl _)))
        refine owp_hpD rfl (by kernel_rfl) (hpSt ⟨y7, 0, none⟩ [.int .i64 (IntKind.wrap .i64 (16777217 + y8)), .int .i64 0] (fun _ => by kernel_rfl) rfl hM ?_)
        intro h24 hM
        refine oS [(3, .bool true)] rfl ?_
        refine oE (cwp_ret (blockE_r (thenE_r ?_)))
        exact q_at (Q := Q .ret) 2 (.pointer (some ⟨y7, 0, none⟩)) (by kernel_rfl) (q_at (Q := Q .ret) 3 (.bool true) (by kernel_rfl) (hKr y7 true _ _ hM))
      replace hM := ifF hc23 hM
      refine cwp_skip (blockE_n (thenE_n (cwp_region ?_)))
      refine oS [(22, .int .i64 (IntKind.wrap .i64 (y8 + 1))), (7, .int .i64 (IntKind.wrap .i64 (y8 + 1)))] rfl ?_
      refine owp_nil ?_
      replace hM := hM _ (Put.ext hP16 (New.ext hN14) (New.ge hN14 (Ext.refl _)))
      exact lwp_at 0 (.int .u8 y6) (by kernel_rfl) (lwp_at 2 (.pointer (some ⟨y7, 0, none⟩)) (by kernel_rfl) (lwp_at 6 ((.agg (tab0.flatMap tab0f).toArray)) (by kernel_rfl) (lwp_at 7 (.int .i64 (IntKind.wrap .i64 (y8 + 1))) (by kernel_rfl) (ih y6 y7 (IntKind.wrap .i64 (y8 + 1)) _ _ hM))))
    replace hM := ifF hc9 hM
    refine cwp_exit (thenE_x ?_)
    exact q_at (Q := Q (.exit 0)) 2 (.pointer (some ⟨y7, 0, none⟩)) (by kernel_rfl) (hK0 y7 _ _ hM)
def keys_letter (a1 : Int) (K : Int → Int → Bool → Heap → Prop) (h : Heap) : Prop :=
 newB h #[.int .i64 0, .int .i64 0] 36 fun b2 h3 =>
 cellsAt h3 ⟨0, 0, none⟩ 0 (tab0.flatMap tab0f) ∧
 ∃ k54, keys_letter_l0
  (fun z34 h35 =>
    stN ⟨z34, 0, none⟩ [.int .i64 0, .int .i64 0] 0 h35 fun h36 =>
    ldI h36 .i64 ⟨z34, 0, none⟩ fun x37 =>
    ldI h36 .i64 ⟨z34, 1, none⟩ fun x39 =>
      K x37 x39 false h36)
  (fun z44 z45 h46 =>
    ldI h46 .i64 ⟨z44, 0, none⟩ fun x47 =>
    ldI h46 .i64 ⟨z44, 1, none⟩ fun x49 =>
      K x47 x49 z45 h46) k54 a1 b2 0 h3
theorem keys_letter_ok (a1 : Int) (K : Int → Int → Bool → Heap → Prop) (h : Heap) (hM : keys_letter a1 K h) : CallsH Tryd.prog 49 #[.int .u8 a1] (fun v h' => ∃ (r55 : Int) (r56 : Int) (r57 : Bool), v = .tuple #[.agg #[.int .i64 r55, .int .i64 r56], .bool r57] ∧ K r55 r56 r57 h') h := by
 unfold keys_letter at hM
 refine callsH_intro (n := 24) Tryd.func49 rfl rfl (by kernel_rfl) ?_
 refine cR ?_
 refine owp_hpG rfl (by kernel_rfl) (hpNew #[.int .i64 0, .int .i64 0] 36 (fun _ => by kernel_rfl) ?_)
 intro b2 h3 hN4
 replace hM := newB_of hN4 hM
 refine oS [(3, .bool false)] rfl ?_
 refine oE (cwp_seq (cR ?_))
 obtain ⟨hc5, hM⟩ := hM
 refine owp_rdG ((.agg (tab0.flatMap tab0f).toArray)) rfl (by kernel_rfl) (rd_loadTab (P := Tryd.prog) (h := h3) (t := 69) (n := 22) (el := 68) (g := 0) (by kernel_rfl) (by kernel_rfl) hc5 (by kernel_rfl)) ?_
 refine oS [(7, .int .i64 0)] rfl ?_
 refine oE (cwp_block ?_)
 obtain ⟨k_, hM⟩ := hM
 refine cwp_loop k_ (lwp_of_part (fn := Tryd.f49) (p := [1, 0, 1, 0, 0]) (by kernel_rfl) (lwp_at 0 (.int .u8 a1) (by kernel_rfl) (lwp_at 2 (.pointer (some ⟨b2, 0, none⟩)) (by kernel_rfl) (lwp_at 6 ((.agg (tab0.flatMap tab0f).toArray)) (by kernel_rfl) (lwp_at 7 (.int .i64 0) (by kernel_rfl) (keys_letter_l0_ok _ ?_ _ ?_ k_ a1 b2 0 _ _ hM))))))
 · intro z34 b43 h35 hM
   refine blockE_h (thenE_n (cR ?_))
   refine oS [(23, .agg #[.int .i64 0, .int .i64 0])] rfl ?_
   refine owp_hpD rfl (by kernel_rfl) (hpSt ⟨z34, 0, none⟩ [.int .i64 0, .int .i64 0] (fun _ => by kernel_rfl) rfl hM ?_)
   intro h36 hM
   refine oS [(3, .bool false)] rfl ?_
   refine oE (cwp_ret ?_)
   obtain ⟨x37, hc38, hM⟩ := hM
   obtain ⟨x39, hc40, hM⟩ := hM
   exact ret_ (.tuple #[.agg #[.int .i64 x37, .int .i64 x39], .bool false]) (Eq.trans (b := (cellH h36 ⟨z34, 0, none⟩).bind fun v41 => (cellH h36 ⟨z34, 1, none⟩).bind fun v42 => some (.tuple #[.agg #[v41, v42], .bool false])) (by kernel_rfl) ((bindE hc38 _).trans (bindE hc40 _))) ⟨_, _, _, rfl, hM⟩
 · intro z44 z45 b53 h46 hM
   refine blockE_r (thenE_r ?_)
   obtain ⟨x47, hc48, hM⟩ := hM
   obtain ⟨x49, hc50, hM⟩ := hM
   exact ret_ (.tuple #[.agg #[.int .i64 x47, .int .i64 x49], .bool z45]) (Eq.trans (b := (cellH h46 ⟨z44, 0, none⟩).bind fun v51 => (cellH h46 ⟨z44, 1, none⟩).bind fun v52 => some (.tuple #[.agg #[v51, v52], .bool z45])) (by kernel_rfl) ((bindE hc48 _).trans (bindE hc50 _))) ⟨_, _, _, rfl, hM⟩
/- mullion/keys.next -/
def keys_next (a1 : ByteArray) (K : Int → Int → Bool → Int → Heap → Prop) (h : Heap) : Prop :=
 newB h #[.int .i64 0, .int .i64 0] 36 fun b2 h3 =>
 if 1 < (a1.size : Int) then
  (0 : Int) < (a1.size : Int) ∧
  if (byteAt a1 0) = 27 then
   (1 : Int) < (a1.size : Int) ∧
   if (byteAt a1 1) = 91 then
    keys_sequence a1 (fun x15 x16 x17 x18 h14 =>
     stN ⟨b2, 0, none⟩ [.int .i64 x15, .int .i64 x16] 0 h14 fun h19 =>
     ldI h19 .i64 ⟨b2, 0, none⟩ fun x20 =>
     ldI h19 .i64 ⟨b2, 1, none⟩ fun x22 =>
      K x20 x22 x17 x18 h19) h3
   else
   if (byteAt a1 1) = 79 then
    if (a1.size : Int) < 3 then
     stN ⟨b2, 0, none⟩ [.int .i64 0, .int .i64 0] 0 h3 fun h28 =>
     ldI h28 .i64 ⟨b2, 0, none⟩ fun x29 =>
     ldI h28 .i64 ⟨b2, 1, none⟩ fun x31 =>
     K x29 x31 false 0 h28
    else
    (2 : Int) < (a1.size : Int) ∧
    keys_letter (byteAt a1 2) (fun x38 x39 x40 h37 =>
     gap h37 fun h44 =>
     stN ⟨b2, 0, none⟩ [.int .i64 x38, .int .i64 x39] 0 h44 fun h49 =>
     ldI h49 .i64 ⟨b2, 0, none⟩ fun x50 =>
     ldI h49 .i64 ⟨b2, 1, none⟩ fun x52 =>
      K x50 x52 x40 3 h49) h3
   else
   keys_bare a1 (fun x57 x58 x59 x60 h56 =>
    stN ⟨b2, 0, none⟩ [.int .i64 x57, .int .i64 x58] 0 h56 fun h61 =>
    ldI h61 .i64 ⟨b2, 0, none⟩ fun x62 =>
    ldI h61 .i64 ⟨b2, 1, none⟩ fun x64 =>
     K x62 x64 x59 x60 h61) h3
  else
  keys_bare a1 (fun x69 x70 x71 x72 h68 =>
   stN ⟨b2, 0, none⟩ [.int .i64 x69, .int .i64 x70] 0 h68 fun h73 =>
   ldI h73 .i64 ⟨b2, 0, none⟩ fun x74 =>
   ldI h73 .i64 ⟨b2, 1, none⟩ fun x76 =>
    K x74 x76 x71 x72 h73) h3
 else
 keys_bare a1 (fun x81 x82 x83 x84 h80 =>
  stN ⟨b2, 0, none⟩ [.int .i64 x81, .int .i64 x82] 0 h80 fun h85 =>
  ldI h85 .i64 ⟨b2, 0, none⟩ fun x86 =>
  ldI h85 .i64 ⟨b2, 1, none⟩ fun x88 =>
   K x86 x88 x83 x84 h85) h3
theorem keys_next_ok (a1 : ByteArray) (K : Int → Int → Bool → Int → Heap → Prop) (h : Heap) (hM : keys_next a1 K h) : CallsH Tryd.prog 28 #[.string a1] (fun v h' => ∃ (r92 : Int) (r93 : Int) (r94 : Bool) (r95 : Int), v = .tuple #[.agg #[.int .i64 r92, .int .i64 r93], .bool r94, .int .i64 r95] ∧ K r92 r93 r94 r95 h') h := by
 unfold keys_next at hM
 refine callsH_intro (n := 43) Tryd.func28 rfl rfl (by kernel_rfl) ?_
 refine cR ?_
 refine owp_hpG rfl (by kernel_rfl) (hpNew #[.int .i64 0, .int .i64 0] 36 (fun _ => by kernel_rfl) ?_)
 intro b2 h3 hN4
 replace hM := newB_of hN4 hM
 refine oS [(3, .bool false), (4, .int .i64 0)] rfl ?_
 refine oE (cwp_seq (cR ?_))
 refine oS [(7, .string a1), (8, .int .i64 (a1.size : Int)), (9, .bool (decide (1 < (a1.size : Int)))), (10, .bool (decide (1 < (a1.size : Int))))] rfl ?_
 by_cases hc7 : 1 < (a1.size : Int)
 · refine owp_at 9 (.bool true) (Eq.trans (b := .bool (decide (1 < (a1.size : Int)))) (by kernel_rfl) (by rw [decide_eq_true hc7])) ?_
   refine owp_at 10 (.bool true) (Eq.trans (b := .bool (decide (1 < (a1.size : Int)))) (by kernel_rfl) (by rw [decide_eq_true hc7])) ?_
   replace hM := ifT hc7 hM
   refine oS [(11, .string a1)] rfl ?_
   have hc8 : 0 ≤ (0 : Int) := by decide
   obtain ⟨hc9, hM⟩ := hM
   refine owp_rdG (.int .u8 (byteAt a1 0)) rfl (by kernel_rfl) (rd_ixStr (P := Tryd.prog) (h := h3) (t := 9) (s := a1) (k := .i64) (i := 0) (by kernel_rfl) hc8 hc9 (by kernel_rfl)) ?_
   refine oS [(13, .bool (decide ((byteAt a1 0) = 27))), (14, .bool (decide ((byteAt a1 0) = 27)))] rfl ?_
   refine oE ?_
   refine cwp_condD ((byteAt a1 0) = 27) (by kernel_rfl) (fun hc10 => ?_) (fun hc10 => ?_)
   · replace hM := ifT hc10 hM
     refine cR ?_
     refine oS [(15, .string a1)] rfl ?_
     have hc11 : 0 ≤ (1 : Int) := by decide
     obtain ⟨hc12, hM⟩ := hM
     refine owp_rdG (.int .u8 (byteAt a1 1)) rfl (by kernel_rfl) (rd_ixStr (P := Tryd.prog) (h := h3) (t := 9) (s := a1) (k := .i64) (i := 1) (by kernel_rfl) hc11 hc12 (by kernel_rfl)) ?_
     refine oE (cwp_block (cR ?_))
     refine oS [(18, .bool (decide ((byteAt a1 1) = 91))), (17, .bool (decide ((byteAt a1 1) = 91)))] rfl ?_
     refine oE ?_
     refine cwp_condD ((byteAt a1 1) = 91) (by kernel_rfl) (fun hc13 => ?_) (fun hc13 => ?_)
     · replace hM := ifT hc13 hM
       refine cR ?_
       refine oS [(19, .string a1)] rfl ?_
       refine owp_hpG rfl (by kernel_rfl) (hpCallE 48 #[.string a1] (by kernel_rfl) (keys_sequence_ok a1 _ h3 hM) ?_)
       rintro _ h14 ⟨x15, x16, x17, x18, rfl, hM⟩
       refine oS [(21, .agg #[.int .i64 x15, .int .i64 x16]), (22, .bool x17), (23, .int .i64 x18)] rfl ?_
       refine owp_hpD rfl (by kernel_rfl) (hpSt ⟨b2, 0, none⟩ [.int .i64 x15, .int .i64 x16] (fun _ => by kernel_rfl) rfl hM ?_)
       intro h19 hM
       refine oS [(3, .bool x17), (4, .int .i64 x18)] rfl ?_
       refine oE (cwp_ret (blockE_r (thenE_r ?_)))
       obtain ⟨x20, hc21, hM⟩ := hM
       obtain ⟨x22, hc23, hM⟩ := hM
       exact ret_ (.tuple #[.agg #[.int .i64 x20, .int .i64 x22], .bool x17, .int .i64 x18]) (Eq.trans (b := (cellH h19 ⟨b2, 0, none⟩).bind fun v24 => (cellH h19 ⟨b2, 1, none⟩).bind fun v25 => some (.tuple #[.agg #[v24, v25], .bool x17, .int .i64 x18])) (by kernel_rfl) ((bindE hc21 _).trans (bindE hc23 _))) ⟨_, _, _, _, rfl, hM⟩
     replace hM := ifF hc13 hM
     refine cR ?_
     refine oS [(25, .bool (decide ((byteAt a1 1) = 79))), (24, .bool (decide ((byteAt a1 1) = 79)))] rfl ?_
     refine oE ?_
     refine cwp_condD ((byteAt a1 1) = 79) (by kernel_rfl) (fun hc26 => ?_) (fun hc26 => ?_)
     · replace hM := ifT hc26 hM
       refine cwp_seq (cR ?_)
       refine oS [(26, .string a1), (27, .int .i64 (a1.size : Int)), (28, .bool (decide ((a1.size : Int) < 3)))] rfl ?_
       refine oE ?_
       refine cwp_condD ((a1.size : Int) < 3) (by kernel_rfl) (fun hc27 => ?_) (fun hc27 => ?_)
       · replace hM := ifT hc27 hM
         refine cR ?_
         refine oS [(29, .agg #[.int .i64 0, .int .i64 0])] rfl ?_
         refine owp_hpD rfl (by kernel_rfl) (hpSt ⟨b2, 0, none⟩ [.int .i64 0, .int .i64 0] (fun _ => by kernel_rfl) rfl hM ?_)
         intro h28 hM
         refine oS [(3, .bool false), (4, .int .i64 0)] rfl ?_
         refine oE (cwp_ret (thenE_r (blockE_r (thenE_r ?_))))
         obtain ⟨x29, hc30, hM⟩ := hM
         obtain ⟨x31, hc32, hM⟩ := hM
         exact ret_ (.tuple #[.agg #[.int .i64 x29, .int .i64 x31], .bool false, .int .i64 0]) (Eq.trans (b := (cellH h28 ⟨b2, 0, none⟩).bind fun v33 => (cellH h28 ⟨b2, 1, none⟩).bind fun v34 => some (.tuple #[.agg #[v33, v34], .bool false, .int .i64 0])) (by kernel_rfl) ((bindE hc30 _).trans (bindE hc32 _))) ⟨_, _, _, _, rfl, hM⟩
       replace hM := ifF hc27 hM
       refine cwp_skip (thenE_n (cR ?_))
       refine oS [(31, .string a1)] rfl ?_
       have hc35 : 0 ≤ (2 : Int) := by decide
       obtain ⟨hc36, hM⟩ := hM
       refine owp_rdG (.int .u8 (byteAt a1 2)) rfl (by kernel_rfl) (rd_ixStr (P := Tryd.prog) (h := h3) (t := 9) (s := a1) (k := .i64) (i := 2) (by kernel_rfl) hc35 hc36 (by kernel_rfl)) ?_
       refine owp_hpG rfl (by kernel_rfl) (hpCallE 49 #[.int .u8 (byteAt a1 2)] (by kernel_rfl) (keys_letter_ok (byteAt a1 2) _ h3 hM) ?_)
       rintro _ h37 ⟨x38, x39, x40, rfl, hM⟩
       refine oS [(30, .tuple #[.agg #[.int .i64 x38, .int .i64 x39], .bool x40]), (34, .agg #[.int .i64 x38, .int .i64 x39]), (35, .bool x40)] rfl ?_
       refine owp_hpG rfl (by kernel_rfl) (hpNew #[.int .i64 0, .int .i64 0] 36 (fun _ => by kernel_rfl) ?_)
       intro b41 h42 hN43
       refine owp_hpD rfl (by kernel_rfl) (hpStB b41 0 [.int .i64 x38, .int .i64 x39] (New.blk hN43) (fun _ => by kernel_rfl) rfl rfl ?_)
       intro h44 hP45
       have f46 : Blk h44 b41 #[.int .i64 x38, .int .i64 x39] 36 := hP45.blk
       refine oS [(6, .bool x40)] rfl ?_
       refine oE (cR ?_)
       refine owp_rdG (.agg #[.int .i64 x38, .int .i64 x39]) rfl (by kernel_rfl) (Eq.trans (b := (cellH h44 ⟨b41, 0, none⟩).bind fun v47 => (cellH h44 ⟨b41, 1, none⟩).bind fun v48 => some (.value (.agg #[v47, v48]))) (by kernel_rfl) ((bindE (Blk.cell f46 0 (by kernel_rfl)) _).trans (bindE (Blk.cell f46 1 (by kernel_rfl)) _))) ?_
       refine oS [(37, .bool x40)] rfl ?_
       replace hM := hM _ (Put.ext hP45 (New.ext hN43) (New.ge hN43 (Ext.refl _)))
       refine owp_hpD rfl (by kernel_rfl) (hpSt ⟨b2, 0, none⟩ [.int .i64 x38, .int .i64 x39] (fun _ => by kernel_rfl) rfl hM ?_)
       intro h49 hM
       refine oS [(3, .bool x40), (4, .int .i64 3)] rfl ?_
       refine oE (cwp_ret (blockE_r (thenE_r ?_)))
       obtain ⟨x50, hc51, hM⟩ := hM
       obtain ⟨x52, hc53, hM⟩ := hM
       exact ret_ (.tuple #[.agg #[.int .i64 x50, .int .i64 x52], .bool x40, .int .i64 3]) (Eq.trans (b := (cellH h49 ⟨b2, 0, none⟩).bind fun v54 => (cellH h49 ⟨b2, 1, none⟩).bind fun v55 => some (.tuple #[.agg #[v54, v55], .bool x40, .int .i64 3])) (by kernel_rfl) ((bindE hc51 _).trans (bindE hc53 _))) ⟨_, _, _, _, rfl, hM⟩
     replace hM := ifF hc26 hM
     refine cwp_skip (blockE_n (thenE_n (cR ?_)))
     refine oS [(38, .string a1)] rfl ?_
     refine owp_hpG rfl (by kernel_rfl) (hpCallE 25 #[.string a1] (by kernel_rfl) (keys_bare_ok a1 _ h3 hM) ?_)
     rintro _ h56 ⟨x57, x58, x59, x60, rfl, hM⟩
     refine oS [(40, .agg #[.int .i64 x57, .int .i64 x58]), (41, .bool x59), (42, .int .i64 x60)] rfl ?_
     refine owp_hpD rfl (by kernel_rfl) (hpSt ⟨b2, 0, none⟩ [.int .i64 x57, .int .i64 x58] (fun _ => by kernel_rfl) rfl hM ?_)
     intro h61 hM
     refine oS [(3, .bool x59), (4, .int .i64 x60)] rfl ?_
     refine oE (cwp_ret ?_)
     obtain ⟨x62, hc63, hM⟩ := hM
     obtain ⟨x64, hc65, hM⟩ := hM
     exact ret_ (.tuple #[.agg #[.int .i64 x62, .int .i64 x64], .bool x59, .int .i64 x60]) (Eq.trans (b := (cellH h61 ⟨b2, 0, none⟩).bind fun v66 => (cellH h61 ⟨b2, 1, none⟩).bind fun v67 => some (.tuple #[.agg #[v66, v67], .bool x59, .int .i64 x60])) (by kernel_rfl) ((bindE hc63 _).trans (bindE hc65 _))) ⟨_, _, _, _, rfl, hM⟩
   replace hM := ifF hc10 hM
   refine cwp_skip (thenE_n (cR ?_))
   refine oS [(38, .string a1)] rfl ?_
   refine owp_hpG rfl (by kernel_rfl) (hpCallE 25 #[.string a1] (by kernel_rfl) (keys_bare_ok a1 _ h3 hM) ?_)
   rintro _ h68 ⟨x69, x70, x71, x72, rfl, hM⟩
   refine oS [(40, .agg #[.int .i64 x69, .int .i64 x70]), (41, .bool x71), (42, .int .i64 x72)] rfl ?_
   refine owp_hpD rfl (by kernel_rfl) (hpSt ⟨b2, 0, none⟩ [.int .i64 x69, .int .i64 x70] (fun _ => by kernel_rfl) rfl hM ?_)
   intro h73 hM
   refine oS [(3, .bool x71), (4, .int .i64 x72)] rfl ?_
   refine oE (cwp_ret ?_)
   obtain ⟨x74, hc75, hM⟩ := hM
   obtain ⟨x76, hc77, hM⟩ := hM
   exact ret_ (.tuple #[.agg #[.int .i64 x74, .int .i64 x76], .bool x71, .int .i64 x72]) (Eq.trans (b := (cellH h73 ⟨b2, 0, none⟩).bind fun v78 => (cellH h73 ⟨b2, 1, none⟩).bind fun v79 => some (.tuple #[.agg #[v78, v79], .bool x71, .int .i64 x72])) (by kernel_rfl) ((bindE hc75 _).trans (bindE hc77 _))) ⟨_, _, _, _, rfl, hM⟩
 refine owp_at 9 (.bool false) (Eq.trans (b := .bool (decide (1 < (a1.size : Int)))) (by kernel_rfl) (by rw [decide_eq_false hc7])) ?_
 refine owp_at 10 (.bool false) (Eq.trans (b := .bool (decide (1 < (a1.size : Int)))) (by kernel_rfl) (by rw [decide_eq_false hc7])) ?_
 replace hM := ifF hc7 hM
 refine oS [(11, undef), (12, undef), (13, undef), (14, .bool false)] rfl ?_
 refine oE ?_
 refine cwp_cond (t := false) (by kernel_rfl) (fun hx_ => ?_) (fun hx_ => ?_)
 all_goals first | (cases hx_; done) | skip
 refine cwp_skip (thenE_n (cR ?_))
 refine oS [(38, .string a1)] rfl ?_
 refine owp_hpG rfl (by kernel_rfl) (hpCallE 25 #[.string a1] (by kernel_rfl) (keys_bare_ok a1 _ h3 hM) ?_)
 rintro _ h80 ⟨x81, x82, x83, x84, rfl, hM⟩
 refine oS [(40, .agg #[.int .i64 x81, .int .i64 x82]), (41, .bool x83), (42, .int .i64 x84)] rfl ?_
 refine owp_hpD rfl (by kernel_rfl) (hpSt ⟨b2, 0, none⟩ [.int .i64 x81, .int .i64 x82] (fun _ => by kernel_rfl) rfl hM ?_)
 intro h85 hM
 refine oS [(3, .bool x83), (4, .int .i64 x84)] rfl ?_
 refine oE (cwp_ret ?_)
 obtain ⟨x86, hc87, hM⟩ := hM
 obtain ⟨x88, hc89, hM⟩ := hM
 exact ret_ (.tuple #[.agg #[.int .i64 x86, .int .i64 x88], .bool x83, .int .i64 x84]) (Eq.trans (b := (cellH h85 ⟨b2, 0, none⟩).bind fun v90 => (cellH h85 ⟨b2, 1, none⟩).bind fun v91 => some (.tuple #[.agg #[v90, v91], .bool x83, .int .i64 x84])) (by kernel_rfl) ((bindE hc87 _).trans (bindE hc89 _))) ⟨_, _, _, _, rfl, hM⟩
/- (*mullion/keys.Decoder).Feed -/
def keys_Decoder_Feed_l0 (K0 : Option Addr → Nat → Nat → Heap → Prop) : Nat → Addr → Option Addr → Nat → Nat → Heap → Prop
  | 0, _, _, _, _, _ => False
  | k + 1, y9, y10, y10n, y10c, h =>
  ldS h y9 fun x11 =>
  if (!(x11.toList == (⟨#[]⟩ : ByteArray).toList)) = true then
   ldS h y9 fun x15 =>
   keys_next x15 (fun x19 x20 x21 x22 h18 =>
    if x22 = 0 then
     gap h18 fun h26 =>
     K0 y10 y10n y10c h26
    else
    if x21 = true then
     gap h18 fun h35 =>
     appH h35 36 16 [.int .i64 0, .int .i64 0] y10 y10n y10c [.int .i64 x19, .int .i64 x20] 1 fun s39 s39c h38 =>
     ldS h38 y9 fun x40 =>
     0 ≤ x22 ∧
     x22 ≤ (x40.size : Int) ∧
     stN y9 [.string (x40.extract x22.toNat x40.size)] 0 h38 fun h45 =>
     keys_Decoder_Feed_l0 K0 k y9 s39 (y10n + 1) s39c h45
    else
    gap h18 fun h26 =>
    ldS h26 y9 fun x46 =>
    0 ≤ x22 ∧
    x22 ≤ (x46.size : Int) ∧
    stN y9 [.string (x46.extract x22.toNat x46.size)] 0 h26 fun h51 =>
     keys_Decoder_Feed_l0 K0 k y9 y10 y10n y10c h51) h
  else
  K0 y10 y10n y10c h
theorem keys_Decoder_Feed_l0_ok {Q : Exit → Env → Heap → Prop} (K0 : Option Addr → Nat → Nat → Heap → Prop) (hK0 : ∀ (z53 : Option Addr) (z53n : Nat) (z53c : Nat) (b : Env) (h : Heap), K0 z53 z53n z53c h → Q (.exit 0) (upd b 5 (.slice z53 z53n z53c)) h) : ∀ (k : Nat) (y9 : Addr) (y10 : Option Addr) (y10n : Nat) (y10c : Nat) (b : Env) (h : Heap) (hM : keys_Decoder_Feed_l0 K0 k y9 y10 y10n y10c h), lwp Tryd.prog (partC Tryd.f12 [1, 1, 1, 0, 0, 0]) 48 Q k (upd (upd b 0 (.pointer (some y9))) 5 (.slice y10 y10n y10c)) h := by
  intro k
  induction k with
  | zero => intro y9 y10 y10n y10c b h hM; exact (show False from hM).elim
  | succ k ih =>
    intro y9 y10 y10n y10c b h hM
    unfold keys_Decoder_Feed_l0 at hM
    refine lwp_succ (cwp_part rfl ?_)
    refine cwp_seq (cR ?_)
    refine oS [(17, .pointer (some y9)), (18, .pointer (some y9)), (19, .pointer (some y9))] rfl ?_
    obtain ⟨x11, hc12, hM⟩ := hM
    refine owp_rdG (.string x11) rfl (by kernel_rfl) (Eq.trans (b := (cellH h y9).bind fun v13 => some (.value v13)) (by kernel_rfl) (bindE hc12 _)) ?_
    refine oS [(21, .bool (!(x11.toList == (⟨#[]⟩ : ByteArray).toList)))] rfl ?_
    refine oE ?_
    refine cwp_condB (!(x11.toList == (⟨#[]⟩ : ByteArray).toList)) (by kernel_rfl) (fun hc14 => ?_) (fun hc14 => ?_)
    · replace hM := ifT hc14 hM
      refine cwp_skip (thenE_n (cwp_block (cR ?_)))
      refine oS [(23, .pointer (some y9)), (24, .pointer (some y9)), (25, .pointer (some y9))] rfl ?_
      obtain ⟨x15, hc16, hM⟩ := hM
      refine owp_rdG (.string x15) rfl (by kernel_rfl) (Eq.trans (b := (cellH h y9).bind fun v17 => some (.value v17)) (by kernel_rfl) (bindE hc16 _)) ?_
      refine owp_hpG rfl (by kernel_rfl) (hpCallE 28 #[.string x15] (by kernel_rfl) (keys_next_ok x15 _ h hM) ?_)
      rintro _ h18 ⟨x19, x20, x21, x22, rfl, hM⟩
      refine oS [(22, .tuple #[.agg #[.int .i64 x19, .int .i64 x20], .bool x21, .int .i64 x22]), (28, .agg #[.int .i64 x19, .int .i64 x20]), (29, .bool x21), (30, .int .i64 x22)] rfl ?_
      refine owp_hpG rfl (by kernel_rfl) (hpNew #[.int .i64 0, .int .i64 0] 36 (fun _ => by kernel_rfl) ?_)
      intro b23 h24 hN25
      refine owp_hpD rfl (by kernel_rfl) (hpStB b23 0 [.int .i64 x19, .int .i64 x20] (New.blk hN25) (fun _ => by kernel_rfl) rfl rfl ?_)
      intro h26 hP27
      have f28 : Blk h26 b23 #[.int .i64 x19, .int .i64 x20] 36 := hP27.blk
      refine oS [(7, .bool x21), (8, .int .i64 x22)] rfl ?_
      refine oE (cwp_seq (cR ?_))
      refine oS [(31, .int .i64 x22), (32, .bool (decide (x22 = 0)))] rfl ?_
      refine oE ?_
      refine cwp_condD (x22 = 0) (by kernel_rfl) (fun hc29 => ?_) (fun hc29 => ?_)
      · replace hM := ifT hc29 hM
        refine cwp_exit (thenE_x (blockE_x rfl ?_))
        replace hM := hM _ (Put.ext hP27 (New.ext hN25) (New.ge hN25 (Ext.refl _)))
        exact q_at (Q := Q (.exit 0)) 5 (.slice y10 y10n y10c) (by kernel_rfl) (hK0 y10 y10n y10c _ _ hM)
      replace hM := ifF hc29 hM
      refine cwp_skip (thenE_n (cwp_seq (cR ?_)))
      refine oS [(33, .bool x21)] rfl ?_
      refine oE ?_
      refine cwp_condB x21 (by kernel_rfl) (fun hc31 => ?_) (fun hc31 => ?_)
      · replace hM := ifT hc31 hM
        refine cwp_region ?_
        refine oS [(34, .slice y10 y10n y10c)] rfl ?_
        refine owp_rdG (.agg #[.int .i64 x19, .int .i64 x20]) rfl (by kernel_rfl) (Eq.trans (b := (cellH h26 ⟨b23, 0, none⟩).bind fun v32 => (cellH h26 ⟨b23, 1, none⟩).bind fun v33 => some (.value (.agg #[v32, v33]))) (by kernel_rfl) ((bindE (Blk.cell f28 0 (by kernel_rfl)) _).trans (bindE (Blk.cell f28 1 (by kernel_rfl)) _))) ?_
        refine owp_hpG rfl (by kernel_rfl) (hpNewS #[.int .i64 x19, .int .i64 x20] 36 1 (fun _ => by kernel_rfl) ?_)
        intro b34 h35 hN36
        have f37 := Blk.ext f28 (New.ext hN36)
        replace hM := hM _ (Ext.trans (Put.ext hP27 (New.ext hN25) (New.ge hN25 (Ext.refl _))) (New.ext hN36))
        refine owp_hpG rfl (by kernel_rfl) (hpApp (t := 27) (ty := 27) (et := 36) (zv := .agg #[.int .i64 0, .int .i64 0]) (sz := 2) (by_ := 16) (base := y10) (n' := y10n) (c := y10c) (xb := (some ⟨b34, 0, none⟩)) (m := 1) (xc := 1) (new := [.int .i64 x19, .int .i64 x20]) (fun _ => by kernel_rfl) (by kernel_rfl) (by kernel_rfl) [.int .i64 0, .int .i64 0] rfl rfl (by decide) rfl rfl ⟨Blk.cell (New.blk hN36) 0 (by kernel_rfl), Blk.cell (New.blk hN36) 1 (by kernel_rfl), trivial⟩ hM ?_)
        intro s39 s39c h38 hM
        refine oS [(5, .slice s39 (y10n + 1) s39c)] rfl ?_
        refine oE (cwp_region ?_)
        refine oS [(38, .pointer (some y9)), (39, .pointer (some y9)), (40, .pointer (some y9)), (41, .pointer (some y9))] rfl ?_
        obtain ⟨x40, hc41, hM⟩ := hM
        refine owp_rdG (.string x40) rfl (by kernel_rfl) (Eq.trans (b := (cellH h38 y9).bind fun v42 => some (.value v42)) (by kernel_rfl) (bindE hc41 _)) ?_
        refine oS [(43, .int .i64 x22)] rfl ?_
        obtain ⟨hc43, hM⟩ := hM
        obtain ⟨hc44, hM⟩ := hM
        refine owp_rdG (.string (x40.extract x22.toNat x40.size)) rfl (by kernel_rfl) (rd_slLo (P := Tryd.prog) (h := h38) (t := 9) (s := x40) (k := .i64) (i := x22) (by kernel_rfl) hc43 hc44 (by kernel_rfl)) ?_
        refine oS [(45, .pointer (some y9)), (46, .pointer (some y9))] rfl ?_
        refine owp_hpD rfl (by kernel_rfl) (hpSt y9 [.string (x40.extract x22.toNat x40.size)] (fun _ => by kernel_rfl) rfl hM ?_)
        intro h45 hM
        refine owp_nil (blockE_n ?_)
        exact lwp_at 0 (.pointer (some y9)) (by kernel_rfl) (lwp_at 5 (.slice s39 (y10n + 1) s39c) (by kernel_rfl) (ih y9 s39 (y10n + 1) s39c _ _ hM))
      replace hM := ifF hc31 hM
      refine cwp_skip (thenE_n (cwp_region ?_))
      refine oS [(38, .pointer (some y9)), (39, .pointer (some y9)), (40, .pointer (some y9)), (41, .pointer (some y9))] rfl ?_
      replace hM := hM _ (Put.ext hP27 (New.ext hN25) (New.ge hN25 (Ext.refl _)))
      obtain ⟨x46, hc47, hM⟩ := hM
      refine owp_rdG (.string x46) rfl (by kernel_rfl) (Eq.trans (b := (cellH h26 y9).bind fun v48 => some (.value v48)) (by kernel_rfl) (bindE hc47 _)) ?_
      refine oS [(43, .int .i64 x22)] rfl ?_
      obtain ⟨hc49, hM⟩ := hM
      obtain ⟨hc50, hM⟩ := hM
      refine owp_rdG (.string (x46.extract x22.toNat x46.size)) rfl (by kernel_rfl) (rd_slLo (P := Tryd.prog) (h := h26) (t := 9) (s := x46) (k := .i64) (i := x22) (by kernel_rfl) hc49 hc50 (by kernel_rfl)) ?_
      refine oS [(45, .pointer (some y9)), (46, .pointer (some y9))] rfl ?_
      refine owp_hpD rfl (by kernel_rfl) (hpSt y9 [.string (x46.extract x22.toNat x46.size)] (fun _ => by kernel_rfl) rfl hM ?_)
      intro h51 hM
      refine owp_nil (blockE_n ?_)
      exact lwp_at 0 (.pointer (some y9)) (by kernel_rfl) (lwp_at 5 (.slice y10 y10n y10c) (by kernel_rfl) (ih y9 y10 y10n y10c _ _ hM))
    replace hM := ifF hc14 hM
    refine cwp_exit (thenE_x ?_)
    exact q_at (Q := Q (.exit 0)) 5 (.slice y10 y10n y10c) (by kernel_rfl) (hK0 y10 y10n y10c _ _ hM)
def keys_Decoder_Feed (a1 : Option Addr) (a2 : ByteArray) (K : Option Addr → Nat → Nat → Heap → Prop) (h : Heap) : Prop :=
 nz a1 fun p3 =>
 ldS h p3 fun x4 =>
 x4.size + a2.size ≤ 9223372036854775807 ∧
 stN p3 [.string (x4 ++ a2)] 0 h fun h8 =>
 ∃ k57, keys_Decoder_Feed_l0
  (fun z54 z54n z54c h55 =>
      K z54 z54n z54c h55) k57 p3 none 0 0 h8
theorem keys_Decoder_Feed_ok (a1 : Option Addr) (a2 : ByteArray) (K : Option Addr → Nat → Nat → Heap → Prop) (h : Heap) (hM : keys_Decoder_Feed a1 a2 K h) : CallsH Tryd.prog 12 #[.pointer a1, .string a2] (fun v h' => ∃ (r58 : Option Addr) (r58n : Nat) (r58c : Nat), v = .slice r58 r58n r58c ∧ K r58 r58n r58c h') h := by
 unfold keys_Decoder_Feed at hM
 refine callsH_intro (n := 48) Tryd.func12 rfl rfl (by kernel_rfl) ?_
 refine cR ?_
 refine oS [(4, .slice none 0 0)] rfl ?_
 refine oE (cR ?_)
 refine oS [(9, .pointer a1)] rfl ?_
 obtain ⟨p3, rfl, hM⟩ := hM
 refine owp_rdG (.pointer (some p3)) rfl (by kernel_rfl) (by kernel_rfl) ?_
 refine oS [(11, .pointer (some p3))] rfl ?_
 obtain ⟨x4, hc5, hM⟩ := hM
 refine owp_rdG (.string x4) rfl (by kernel_rfl) (Eq.trans (b := (cellH h p3).bind fun v6 => some (.value v6)) (by kernel_rfl) (bindE hc5 _)) ?_
 refine oS [(13, .string a2)] rfl ?_
 obtain ⟨hc7, hM⟩ := hM
 refine owp_rdG (.string (x4 ++ a2)) rfl (by kernel_rfl) (rd_cat (P := Tryd.prog) (h := h) (x := x4) (y := a2) hc7 (by kernel_rfl)) ?_
 refine oS [(15, .pointer (some p3)), (16, .pointer (some p3))] rfl ?_
 refine owp_hpD rfl (by kernel_rfl) (hpSt p3 [.string (x4 ++ a2)] (fun _ => by kernel_rfl) rfl hM ?_)
 intro h8 hM
 refine oE (cR ?_)
 refine oS [(5, .slice none 0 0)] rfl ?_
 refine oE (cwp_seq (cwp_block ?_))
 obtain ⟨k_, hM⟩ := hM
 refine cwp_loop k_ (lwp_of_part (fn := Tryd.f12) (p := [1, 1, 1, 0, 0, 0]) (by kernel_rfl) (lwp_at 0 (.pointer (some p3)) (by kernel_rfl) (lwp_at 5 (.slice none 0 0) (by kernel_rfl) (keys_Decoder_Feed_l0_ok _ ?_ k_ p3 none 0 0 _ _ hM))))
 · intro z54 z54n z54c b56 h55 hM
   refine blockE_h (thenE_n (cR ?_))
   refine oS [(47, .slice z54 z54n z54c), (4, .slice z54 z54n z54c)] rfl ?_
   refine oE (cwp_ret ?_)
   exact ret_ (.slice z54 z54n z54c) (by kernel_rfl) ⟨_, _, _, rfl, hM⟩
/- mullion/mullionref21.special -/
def ref21_special (a1 : Int) : Bool :=
 ((decide (16777217 ≤ a1)) && (decide (a1 ≤ 16777238)))
theorem ref21_special_ok (a1 : Int) (r : Bool) (h : Heap) (hM : ref21_special a1 = r) : CallsH Tryd.prog 33 #[.int .i64 a1] (fun v h' => v = .bool r ∧ Ext h h') h := by
 unfold ref21_special at hM
 refine callsH_intro (n := 9) Tryd.func33 rfl rfl (by kernel_rfl) ?_
 refine cR ?_
 refine oS [(2, .bool false)] rfl ?_
 refine oE (cR ?_)
 refine oS [(3, .int .i64 a1), (4, .bool (decide (16777217 ≤ a1))), (5, .bool (decide (16777217 ≤ a1)))] rfl ?_
 refine oB (decide (16777217 ≤ a1)) 3 [4, 5] (fun b_ => [(6, iteV b_ (.int .i64 a1 : Value) undef), (7, iteV b_ (.bool (decide (a1 ≤ 16777238)) : Value) undef), (8, .bool (b_ && (decide (a1 ≤ 16777238))))]) rfl (fun hb2 hq3 => oS [(6, .int .i64 a1), (7, .bool (decide (a1 ≤ 16777238))), (8, .bool (decide (a1 ≤ 16777238)))] rfl (hq3)) (fun hb4 hq5 => oS [(6, undef), (7, undef), (8, .bool false)] rfl (hq5)) ?_
 refine oS [(2, .bool ((decide (16777217 ≤ a1)) && (decide (a1 ≤ 16777238))))] rfl ?_
 refine oE (cwp_ret ?_)
 subst hM
 exact ret_ (.bool ((decide (16777217 ≤ a1)) && (decide (a1 ≤ 16777238)))) (by kernel_rfl) ⟨rfl, Ext.refl _⟩
/- mullion/mullionref21.character -/
def ref21_character (a1 : Int) : Bool :=
 (((decide (33 ≤ a1)) && (decide (a1 ≤ 126))) || (((decide (160 ≤ a1)) && (decide (a1 ≤ 1114111))) && ((decide (a1 < 55296)) || (decide (57343 < a1)))))
theorem ref21_character_ok (a1 : Int) (r : Bool) (h : Heap) (hM : ref21_character a1 = r) : CallsH Tryd.prog 34 #[.int .i64 a1] (fun v h' => v = .bool r ∧ Ext h h') h := by
 unfold ref21_character at hM
 refine callsH_intro (n := 25) Tryd.func34 rfl rfl (by kernel_rfl) ?_
 refine cR ?_
 refine oS [(2, .bool false)] rfl ?_
 refine oE (cR ?_)
 refine oS [(3, .int .i64 a1), (4, .bool (decide (33 ≤ a1))), (5, .bool (decide (33 ≤ a1)))] rfl ?_
 refine oB (decide (33 ≤ a1)) 3 [4, 5] (fun b_ => [(6, iteV b_ (.int .i64 a1 : Value) undef), (7, iteV b_ (.bool (decide (a1 ≤ 126)) : Value) undef), (8, .bool (b_ && (decide (a1 ≤ 126))))]) rfl (fun hb2 hq3 => oS [(6, .int .i64 a1), (7, .bool (decide (a1 ≤ 126))), (8, .bool (decide (a1 ≤ 126)))] rfl (hq3)) (fun hb4 hq5 => oS [(6, undef), (7, undef), (8, .bool false)] rfl (hq5)) ?_
 refine oS [(9, .bool ((decide (33 ≤ a1)) && (decide (a1 ≤ 126))))] rfl ?_
 refine oB ((decide (33 ≤ a1)) && (decide (a1 ≤ 126))) 15 [8, 9] (fun b_ => [(10, iteV b_ undef (.int .i64 a1 : Value)), (11, iteV b_ undef (.bool (decide (160 ≤ a1)) : Value)), (12, iteV b_ undef (.bool (decide (160 ≤ a1)) : Value)), (13, iteV b_ undef (iteV (decide (160 ≤ a1)) (.int .i64 a1 : Value) undef)), (14, iteV b_ undef (iteV (decide (160 ≤ a1)) (.bool (decide (a1 ≤ 1114111)) : Value) undef)), (15, iteV b_ undef (.bool ((decide (160 ≤ a1)) && (decide (a1 ≤ 1114111))) : Value)), (16, iteV b_ undef (.bool ((decide (160 ≤ a1)) && (decide (a1 ≤ 1114111))) : Value)), (17, iteV b_ undef (iteV ((decide (160 ≤ a1)) && (decide (a1 ≤ 1114111))) (.int .i64 a1 : Value) undef)), (18, iteV b_ undef (iteV ((decide (160 ≤ a1)) && (decide (a1 ≤ 1114111))) (.bool (decide (a1 < 55296)) : Value) undef)), (19, iteV b_ undef (iteV ((decide (160 ≤ a1)) && (decide (a1 ≤ 1114111))) (.bool (decide (a1 < 55296)) : Value) undef)), (20, iteV b_ undef (iteV ((decide (160 ≤ a1)) && (decide (a1 ≤ 1114111))) (iteV (decide (a1 < 55296)) undef (.int .i64 a1 : Value)) undef)), (21, iteV b_ undef (iteV ((decide (160 ≤ a1)) && (decide (a1 ≤ 1114111))) (iteV (decide (a1 < 55296)) undef (.bool (decide (57343 < a1)) : Value)) undef)), (22, iteV b_ undef (iteV ((decide (160 ≤ a1)) && (decide (a1 ≤ 1114111))) (.bool ((decide (a1 < 55296)) || (decide (57343 < a1))) : Value) undef)), (23, iteV b_ undef (.bool (((decide (160 ≤ a1)) && (decide (a1 ≤ 1114111))) && ((decide (a1 < 55296)) || (decide (57343 < a1)))) : Value)), (24, .bool (b_ || (((decide (160 ≤ a1)) && (decide (a1 ≤ 1114111))) && ((decide (a1 < 55296)) || (decide (57343 < a1))))))]) rfl (fun hb18 hq19 => oS [(10, undef), (11, undef), (12, undef), (13, undef), (14, undef), (15, undef), (16, undef), (17, undef), (18, undef), (19, undef), (20, undef), (21, undef), (22, undef), (23, undef), (24, .bool true)] rfl (hq19)) (fun hb20 hq21 => oS [(10, .int .i64 a1), (11, .bool (decide (160 ≤ a1))), (12, .bool (decide (160 ≤ a1)))] rfl (oB (decide (160 ≤ a1)) 3 [11, 12] (fun b_ => [(13, iteV b_ (.int .i64 a1 : Value) undef), (14, iteV b_ (.bool (decide (a1 ≤ 1114111)) : Value) undef), (15, .bool (b_ && (decide (a1 ≤ 1114111))))]) rfl (fun hb6 hq7 => oS [(13, .int .i64 a1), (14, .bool (decide (a1 ≤ 1114111))), (15, .bool (decide (a1 ≤ 1114111)))] rfl (hq7)) (fun hb8 hq9 => oS [(13, undef), (14, undef), (15, .bool false)] rfl (hq9)) (oS [(16, .bool ((decide (160 ≤ a1)) && (decide (a1 ≤ 1114111))))] rfl (oB ((decide (160 ≤ a1)) && (decide (a1 ≤ 1114111))) 7 [15, 16] (fun b_ => [(17, iteV b_ (.int .i64 a1 : Value) undef), (18, iteV b_ (.bool (decide (a1 < 55296)) : Value) undef), (19, iteV b_ (.bool (decide (a1 < 55296)) : Value) undef), (20, iteV b_ (iteV (decide (a1 < 55296)) undef (.int .i64 a1 : Value)) undef), (21, iteV b_ (iteV (decide (a1 < 55296)) undef (.bool (decide (57343 < a1)) : Value)) undef), (22, iteV b_ (.bool ((decide (a1 < 55296)) || (decide (57343 < a1))) : Value) undef), (23, .bool (b_ && ((decide (a1 < 55296)) || (decide (57343 < a1)))))]) rfl (fun hb14 hq15 => oS [(17, .int .i64 a1), (18, .bool (decide (a1 < 55296))), (19, .bool (decide (a1 < 55296)))] rfl (oB (decide (a1 < 55296)) 3 [18, 19] (fun b_ => [(20, iteV b_ undef (.int .i64 a1 : Value)), (21, iteV b_ undef (.bool (decide (57343 < a1)) : Value)), (22, .bool (b_ || (decide (57343 < a1))))]) rfl (fun hb10 hq11 => oS [(20, undef), (21, undef), (22, .bool true)] rfl (hq11)) (fun hb12 hq13 => oS [(20, .int .i64 a1), (21, .bool (decide (57343 < a1))), (22, .bool (decide (57343 < a1)))] rfl (hq13)) (oS [(23, .bool ((decide (a1 < 55296)) || (decide (57343 < a1))))] rfl (hq15)))) (fun hb16 hq17 => oS [(17, undef), (18, undef), (19, undef), (20, undef), (21, undef), (22, undef), (23, .bool false)] rfl (hq17)) (oS [(24, .bool (((decide (160 ≤ a1)) && (decide (a1 ≤ 1114111))) && ((decide (a1 < 55296)) || (decide (57343 < a1)))))] rfl (hq21)))))) ?_
 refine oS [(2, .bool (((decide (33 ≤ a1)) && (decide (a1 ≤ 126))) || (((decide (160 ≤ a1)) && (decide (a1 ≤ 1114111))) && ((decide (a1 < 55296)) || (decide (57343 < a1))))))] rfl ?_
 refine oE (cwp_ret ?_)
 subst hM
 exact ret_ (.bool (((decide (33 ≤ a1)) && (decide (a1 ≤ 126))) || (((decide (160 ≤ a1)) && (decide (a1 ≤ 1114111))) && ((decide (a1 < 55296)) || (decide (57343 < a1)))))) (by kernel_rfl) ⟨rfl, Ext.refl _⟩
/- mullion/mullionref21.controlled -/
def ref21_controlled (a1 : Int) : Bool :=
 ((((((((decide (97 ≤ a1)) && (decide (a1 ≤ 122))) && (!decide (a1 = 105))) && (!decide (a1 = 109))) || (decide (a1 = 92))) || (decide (a1 = 93))) || (decide (a1 = 94))) || (decide (a1 = 95)))
theorem ref21_controlled_ok (a1 : Int) (r : Bool) (h : Heap) (hM : ref21_controlled a1 = r) : CallsH Tryd.prog 35 #[.int .i64 a1] (fun v h' => v = .bool r ∧ Ext h h') h := by
 unfold ref21_controlled at hM
 refine callsH_intro (n := 33) Tryd.func35 rfl rfl (by kernel_rfl) ?_
 refine cR ?_
 refine oS [(2, .bool false)] rfl ?_
 refine oE (cR ?_)
 refine oS [(3, .int .i64 a1), (4, .bool (decide (97 ≤ a1))), (5, .bool (decide (97 ≤ a1)))] rfl ?_
 refine oB (decide (97 ≤ a1)) 3 [4, 5] (fun b_ => [(6, iteV b_ (.int .i64 a1 : Value) undef), (7, iteV b_ (.bool (decide (a1 ≤ 122)) : Value) undef), (8, .bool (b_ && (decide (a1 ≤ 122))))]) rfl (fun hb2 hq3 => oS [(6, .int .i64 a1), (7, .bool (decide (a1 ≤ 122))), (8, .bool (decide (a1 ≤ 122)))] rfl (hq3)) (fun hb4 hq5 => oS [(6, undef), (7, undef), (8, .bool false)] rfl (hq5)) ?_
 refine oS [(9, .bool ((decide (97 ≤ a1)) && (decide (a1 ≤ 122))))] rfl ?_
 refine oB ((decide (97 ≤ a1)) && (decide (a1 ≤ 122))) 3 [8, 9] (fun b_ => [(10, iteV b_ (.int .i64 a1 : Value) undef), (11, iteV b_ (.bool (!decide (a1 = 105)) : Value) undef), (12, .bool (b_ && (!decide (a1 = 105))))]) rfl (fun hb6 hq7 => oS [(10, .int .i64 a1), (11, .bool (!decide (a1 = 105))), (12, .bool (!decide (a1 = 105)))] rfl (hq7)) (fun hb8 hq9 => oS [(10, undef), (11, undef), (12, .bool false)] rfl (hq9)) ?_
 refine oS [(13, .bool (((decide (97 ≤ a1)) && (decide (a1 ≤ 122))) && (!decide (a1 = 105))))] rfl ?_
 refine oB (((decide (97 ≤ a1)) && (decide (a1 ≤ 122))) && (!decide (a1 = 105))) 3 [12, 13] (fun b_ => [(14, iteV b_ (.int .i64 a1 : Value) undef), (15, iteV b_ (.bool (!decide (a1 = 109)) : Value) undef), (16, .bool (b_ && (!decide (a1 = 109))))]) rfl (fun hb10 hq11 => oS [(14, .int .i64 a1), (15, .bool (!decide (a1 = 109))), (16, .bool (!decide (a1 = 109)))] rfl (hq11)) (fun hb12 hq13 => oS [(14, undef), (15, undef), (16, .bool false)] rfl (hq13)) ?_
 refine oS [(17, .bool ((((decide (97 ≤ a1)) && (decide (a1 ≤ 122))) && (!decide (a1 = 105))) && (!decide (a1 = 109))))] rfl ?_
 refine oB ((((decide (97 ≤ a1)) && (decide (a1 ≤ 122))) && (!decide (a1 = 105))) && (!decide (a1 = 109))) 3 [16, 17] (fun b_ => [(18, iteV b_ undef (.int .i64 a1 : Value)), (19, iteV b_ undef (.bool (decide (a1 = 92)) : Value)), (20, .bool (b_ || (decide (a1 = 92))))]) rfl (fun hb14 hq15 => oS [(18, undef), (19, undef), (20, .bool true)] rfl (hq15)) (fun hb16 hq17 => oS [(18, .int .i64 a1), (19, .bool (decide (a1 = 92))), (20, .bool (decide (a1 = 92)))] rfl (hq17)) ?_
 refine oS [(21, .bool (((((decide (97 ≤ a1)) && (decide (a1 ≤ 122))) && (!decide (a1 = 105))) && (!decide (a1 = 109))) || (decide (a1 = 92))))] rfl ?_
 refine oB (((((decide (97 ≤ a1)) && (decide (a1 ≤ 122))) && (!decide (a1 = 105))) && (!decide (a1 = 109))) || (decide (a1 = 92))) 3 [20, 21] (fun b_ => [(22, iteV b_ undef (.int .i64 a1 : Value)), (23, iteV b_ undef (.bool (decide (a1 = 93)) : Value)), (24, .bool (b_ || (decide (a1 = 93))))]) rfl (fun hb18 hq19 => oS [(22, undef), (23, undef), (24, .bool true)] rfl (hq19)) (fun hb20 hq21 => oS [(22, .int .i64 a1), (23, .bool (decide (a1 = 93))), (24, .bool (decide (a1 = 93)))] rfl (hq21)) ?_
 refine oS [(25, .bool ((((((decide (97 ≤ a1)) && (decide (a1 ≤ 122))) && (!decide (a1 = 105))) && (!decide (a1 = 109))) || (decide (a1 = 92))) || (decide (a1 = 93))))] rfl ?_
 refine oB ((((((decide (97 ≤ a1)) && (decide (a1 ≤ 122))) && (!decide (a1 = 105))) && (!decide (a1 = 109))) || (decide (a1 = 92))) || (decide (a1 = 93))) 3 [24, 25] (fun b_ => [(26, iteV b_ undef (.int .i64 a1 : Value)), (27, iteV b_ undef (.bool (decide (a1 = 94)) : Value)), (28, .bool (b_ || (decide (a1 = 94))))]) rfl (fun hb22 hq23 => oS [(26, undef), (27, undef), (28, .bool true)] rfl (hq23)) (fun hb24 hq25 => oS [(26, .int .i64 a1), (27, .bool (decide (a1 = 94))), (28, .bool (decide (a1 = 94)))] rfl (hq25)) ?_
 refine oS [(29, .bool (((((((decide (97 ≤ a1)) && (decide (a1 ≤ 122))) && (!decide (a1 = 105))) && (!decide (a1 = 109))) || (decide (a1 = 92))) || (decide (a1 = 93))) || (decide (a1 = 94))))] rfl ?_
 refine oB (((((((decide (97 ≤ a1)) && (decide (a1 ≤ 122))) && (!decide (a1 = 105))) && (!decide (a1 = 109))) || (decide (a1 = 92))) || (decide (a1 = 93))) || (decide (a1 = 94))) 3 [28, 29] (fun b_ => [(30, iteV b_ undef (.int .i64 a1 : Value)), (31, iteV b_ undef (.bool (decide (a1 = 95)) : Value)), (32, .bool (b_ || (decide (a1 = 95))))]) rfl (fun hb26 hq27 => oS [(30, undef), (31, undef), (32, .bool true)] rfl (hq27)) (fun hb28 hq29 => oS [(30, .int .i64 a1), (31, .bool (decide (a1 = 95))), (32, .bool (decide (a1 = 95)))] rfl (hq29)) ?_
 refine oS [(2, .bool ((((((((decide (97 ≤ a1)) && (decide (a1 ≤ 122))) && (!decide (a1 = 105))) && (!decide (a1 = 109))) || (decide (a1 = 92))) || (decide (a1 = 93))) || (decide (a1 = 94))) || (decide (a1 = 95))))] rfl ?_
 refine oE (cwp_ret ?_)
 subst hM
 exact ret_ (.bool ((((((((decide (97 ≤ a1)) && (decide (a1 ≤ 122))) && (!decide (a1 = 105))) && (!decide (a1 = 109))) || (decide (a1 = 92))) || (decide (a1 = 93))) || (decide (a1 = 94))) || (decide (a1 = 95)))) (by kernel_rfl) ⟨rfl, Ext.refl _⟩
/- mullion/mullionref21.Valid -/
def ref21_Valid (a1 : Int) (a2 : Int) : Bool :=
 if ((decide (a2 < 0)) || (decide (7 < a2))) = true then
  (false)
 else
 if a1 = 32 then
  (((decide (a2 = 0)) || (decide (a2 = 2))) || ((decide (a2 = 4)) || (decide (a2 = 6))))
 else
 if ((((decide (a1 = 13)) || (decide (a1 = 9))) || (decide (a1 = 27))) || (decide (a1 = 127))) = true then
  ((decide (a2 = 0)) || (decide (a2 = 2)))
 else
 if (ref21_special a1) = true then
  (true)
 else
 if a1 = 16777239 then
  (decide (a2 = 0))
 else
 if ((ref21_character a1) && ((decide (a2 = 0)) || (decide (a2 = 2)))) = true then
  (true)
 else
 ((ref21_controlled a1) && ((decide (a2 = 4)) || (decide (a2 = 6))))
theorem ref21_Valid_ok (a1 : Int) (a2 : Int) (r : Bool) (h : Heap) (hM : ref21_Valid a1 a2 = r) : CallsH Tryd.prog 18 #[.agg #[.int .i64 a1, .int .i64 a2]] (fun v h' => v = .bool r ∧ Ext h h') h := by
 unfold ref21_Valid at hM
 refine callsH_intro (n := 82) Tryd.func18 rfl rfl (by kernel_rfl) ?_
 refine cR ?_
 refine owp_hpG rfl (by kernel_rfl) (hpNew #[.int .i64 a1, .int .i64 a2] 36 (fun _ => by kernel_rfl) ?_)
 intro b3 h4 hN5
 refine oS [(2, .bool false)] rfl ?_
 refine oE (cwp_seq (cR ?_))
 refine oS [(5, .pointer (some ⟨b3, 1, none⟩))] rfl ?_
 refine owp_rdG (.int .i64 a2) rfl (by kernel_rfl) (Eq.trans (b := (cellH h4 ⟨b3, 1, none⟩).bind fun v6 => some (.value v6)) (by kernel_rfl) (bindE (Blk.cell (New.blk hN5) 1 (by kernel_rfl)) _)) ?_
 refine oS [(7, .bool (decide (a2 < 0))), (8, .bool (decide (a2 < 0)))] rfl ?_
 refine oB (decide (a2 < 0)) 4 [7, 8] (fun b_ => [(9, iteV b_ undef (.pointer (some ⟨b3, 1, none⟩) : Value)), (10, iteV b_ undef (.int .i64 a2 : Value)), (11, iteV b_ undef (.bool (decide (7 < a2)) : Value)), (12, .bool (b_ || (decide (7 < a2))))]) rfl (fun hb8 hq9 => oS [(9, undef), (10, undef), (11, undef), (12, .bool true)] rfl (hq9)) (fun hb10 hq11 => oS [(9, .pointer (some ⟨b3, 1, none⟩))] rfl (owp_rdG (.int .i64 a2) rfl (by kernel_rfl) (Eq.trans (b := (cellH h4 ⟨b3, 1, none⟩).bind fun v7 => some (.value v7)) (by kernel_rfl) (bindE (Blk.cell (New.blk hN5) 1 (by kernel_rfl)) _)) (oS [(11, .bool (decide (7 < a2))), (12, .bool (decide (7 < a2)))] rfl (hq11)))) ?_
 refine oE ?_
 refine cwp_condB ((decide (a2 < 0)) || (decide (7 < a2))) (by kernel_rfl) (fun hc12 => ?_) (fun hc12 => ?_)
 · replace hM := ifTo hc12 hM
   refine cR ?_
   refine oS [(2, .bool false)] rfl ?_
   refine oE (cwp_ret (thenE_r ?_))
   subst hM
   exact ret_ (.bool false) (by kernel_rfl) ⟨rfl, (New.ext hN5)⟩
 replace hM := ifFo hc12 hM
 refine cwp_skip (thenE_n (cR ?_))
 refine oS [(13, .pointer (some ⟨b3, 1, none⟩))] rfl ?_
 refine owp_rdG (.int .i64 a2) rfl (by kernel_rfl) (Eq.trans (b := (cellH h4 ⟨b3, 1, none⟩).bind fun v13 => some (.value v13)) (by kernel_rfl) (bindE (Blk.cell (New.blk hN5) 1 (by kernel_rfl)) _)) ?_
 refine oS [(15, .bool (decide (a2 = 0))), (16, .bool (decide (a2 = 0)))] rfl ?_
 refine oB (decide (a2 = 0)) 4 [15, 16] (fun b_ => [(17, iteV b_ undef (.pointer (some ⟨b3, 1, none⟩) : Value)), (18, iteV b_ undef (.int .i64 a2 : Value)), (19, iteV b_ undef (.bool (decide (a2 = 2)) : Value)), (20, .bool (b_ || (decide (a2 = 2))))]) rfl (fun hb15 hq16 => oS [(17, undef), (18, undef), (19, undef), (20, .bool true)] rfl (hq16)) (fun hb17 hq18 => oS [(17, .pointer (some ⟨b3, 1, none⟩))] rfl (owp_rdG (.int .i64 a2) rfl (by kernel_rfl) (Eq.trans (b := (cellH h4 ⟨b3, 1, none⟩).bind fun v14 => some (.value v14)) (by kernel_rfl) (bindE (Blk.cell (New.blk hN5) 1 (by kernel_rfl)) _)) (oS [(19, .bool (decide (a2 = 2))), (20, .bool (decide (a2 = 2)))] rfl (hq18)))) ?_
 refine oS [(3, .bool ((decide (a2 = 0)) || (decide (a2 = 2))))] rfl ?_
 refine oE (cR ?_)
 refine oS [(21, .pointer (some ⟨b3, 1, none⟩))] rfl ?_
 refine owp_rdG (.int .i64 a2) rfl (by kernel_rfl) (Eq.trans (b := (cellH h4 ⟨b3, 1, none⟩).bind fun v19 => some (.value v19)) (by kernel_rfl) (bindE (Blk.cell (New.blk hN5) 1 (by kernel_rfl)) _)) ?_
 refine oS [(23, .bool (decide (a2 = 4))), (24, .bool (decide (a2 = 4)))] rfl ?_
 refine oB (decide (a2 = 4)) 4 [23, 24] (fun b_ => [(25, iteV b_ undef (.pointer (some ⟨b3, 1, none⟩) : Value)), (26, iteV b_ undef (.int .i64 a2 : Value)), (27, iteV b_ undef (.bool (decide (a2 = 6)) : Value)), (28, .bool (b_ || (decide (a2 = 6))))]) rfl (fun hb21 hq22 => oS [(25, undef), (26, undef), (27, undef), (28, .bool true)] rfl (hq22)) (fun hb23 hq24 => oS [(25, .pointer (some ⟨b3, 1, none⟩))] rfl (owp_rdG (.int .i64 a2) rfl (by kernel_rfl) (Eq.trans (b := (cellH h4 ⟨b3, 1, none⟩).bind fun v20 => some (.value v20)) (by kernel_rfl) (bindE (Blk.cell (New.blk hN5) 1 (by kernel_rfl)) _)) (oS [(27, .bool (decide (a2 = 6))), (28, .bool (decide (a2 = 6)))] rfl (hq24)))) ?_
 refine oS [(4, .bool ((decide (a2 = 4)) || (decide (a2 = 6))))] rfl ?_
 refine oE (cwp_seq (cwp_block (cR ?_)))
 refine oS [(30, .pointer (some ⟨b3, 0, none⟩))] rfl ?_
 refine owp_rdG (.int .i64 a1) rfl (by kernel_rfl) (Eq.trans (b := (cellH h4 ⟨b3, 0, none⟩).bind fun v25 => some (.value v25)) (by kernel_rfl) (bindE (Blk.cell (New.blk hN5) 0 (by kernel_rfl)) _)) ?_
 refine oS [(32, .bool (decide (a1 = 32))), (29, .bool (decide (a1 = 32)))] rfl ?_
 refine oE ?_
 refine cwp_condD (a1 = 32) (by kernel_rfl) (fun hc26 => ?_) (fun hc26 => ?_)
 · replace hM := ifTo hc26 hM
   refine cR ?_
   refine oS [(33, .bool ((decide (a2 = 0)) || (decide (a2 = 2)))), (34, .bool ((decide (a2 = 0)) || (decide (a2 = 2))))] rfl ?_
   refine oB ((decide (a2 = 0)) || (decide (a2 = 2))) 2 [20, 3, 33, 34] (fun b_ => [(35, iteV b_ undef (.bool ((decide (a2 = 4)) || (decide (a2 = 6))) : Value)), (36, .bool (b_ || ((decide (a2 = 4)) || (decide (a2 = 6)))))]) rfl (fun hb27 hq28 => oS [(35, undef), (36, .bool true)] rfl (hq28)) (fun hb29 hq30 => oS [(35, .bool ((decide (a2 = 4)) || (decide (a2 = 6)))), (36, .bool ((decide (a2 = 4)) || (decide (a2 = 6))))] rfl (hq30)) ?_
   refine oS [(2, .bool (((decide (a2 = 0)) || (decide (a2 = 2))) || ((decide (a2 = 4)) || (decide (a2 = 6)))))] rfl ?_
   refine oE (cwp_ret (blockE_r (thenE_r ?_)))
   subst hM
   exact ret_ (.bool (((decide (a2 = 0)) || (decide (a2 = 2))) || ((decide (a2 = 4)) || (decide (a2 = 6))))) (by kernel_rfl) ⟨rfl, (New.ext hN5)⟩
 replace hM := ifFo hc26 hM
 refine cR ?_
 refine oS [(38, .pointer (some ⟨b3, 0, none⟩))] rfl ?_
 refine owp_rdG (.int .i64 a1) rfl (by kernel_rfl) (Eq.trans (b := (cellH h4 ⟨b3, 0, none⟩).bind fun v31 => some (.value v31)) (by kernel_rfl) (bindE (Blk.cell (New.blk hN5) 0 (by kernel_rfl)) _)) ?_
 refine oS [(40, .bool (decide (a1 = 13))), (41, .bool (decide (a1 = 13)))] rfl ?_
 refine oB (decide (a1 = 13)) 4 [40, 41] (fun b_ => [(42, iteV b_ undef (.pointer (some ⟨b3, 0, none⟩) : Value)), (43, iteV b_ undef (.int .i64 a1 : Value)), (44, iteV b_ undef (.bool (decide (a1 = 9)) : Value)), (45, .bool (b_ || (decide (a1 = 9))))]) rfl (fun hb33 hq34 => oS [(42, undef), (43, undef), (44, undef), (45, .bool true)] rfl (hq34)) (fun hb35 hq36 => oS [(42, .pointer (some ⟨b3, 0, none⟩))] rfl (owp_rdG (.int .i64 a1) rfl (by kernel_rfl) (Eq.trans (b := (cellH h4 ⟨b3, 0, none⟩).bind fun v32 => some (.value v32)) (by kernel_rfl) (bindE (Blk.cell (New.blk hN5) 0 (by kernel_rfl)) _)) (oS [(44, .bool (decide (a1 = 9))), (45, .bool (decide (a1 = 9)))] rfl (hq36)))) ?_
 refine oS [(46, .bool ((decide (a1 = 13)) || (decide (a1 = 9))))] rfl ?_
 refine oB ((decide (a1 = 13)) || (decide (a1 = 9))) 4 [45, 46] (fun b_ => [(47, iteV b_ undef (.pointer (some ⟨b3, 0, none⟩) : Value)), (48, iteV b_ undef (.int .i64 a1 : Value)), (49, iteV b_ undef (.bool (decide (a1 = 27)) : Value)), (50, .bool (b_ || (decide (a1 = 27))))]) rfl (fun hb38 hq39 => oS [(47, undef), (48, undef), (49, undef), (50, .bool true)] rfl (hq39)) (fun hb40 hq41 => oS [(47, .pointer (some ⟨b3, 0, none⟩))] rfl (owp_rdG (.int .i64 a1) rfl (by kernel_rfl) (Eq.trans (b := (cellH h4 ⟨b3, 0, none⟩).bind fun v37 => some (.value v37)) (by kernel_rfl) (bindE (Blk.cell (New.blk hN5) 0 (by kernel_rfl)) _)) (oS [(49, .bool (decide (a1 = 27))), (50, .bool (decide (a1 = 27)))] rfl (hq41)))) ?_
 refine oS [(51, .bool (((decide (a1 = 13)) || (decide (a1 = 9))) || (decide (a1 = 27))))] rfl ?_
 refine oB (((decide (a1 = 13)) || (decide (a1 = 9))) || (decide (a1 = 27))) 4 [50, 51] (fun b_ => [(52, iteV b_ undef (.pointer (some ⟨b3, 0, none⟩) : Value)), (53, iteV b_ undef (.int .i64 a1 : Value)), (54, iteV b_ undef (.bool (decide (a1 = 127)) : Value)), (55, .bool (b_ || (decide (a1 = 127))))]) rfl (fun hb43 hq44 => oS [(52, undef), (53, undef), (54, undef), (55, .bool true)] rfl (hq44)) (fun hb45 hq46 => oS [(52, .pointer (some ⟨b3, 0, none⟩))] rfl (owp_rdG (.int .i64 a1) rfl (by kernel_rfl) (Eq.trans (b := (cellH h4 ⟨b3, 0, none⟩).bind fun v42 => some (.value v42)) (by kernel_rfl) (bindE (Blk.cell (New.blk hN5) 0 (by kernel_rfl)) _)) (oS [(54, .bool (decide (a1 = 127))), (55, .bool (decide (a1 = 127)))] rfl (hq46)))) ?_
 refine oS [(37, .bool ((((decide (a1 = 13)) || (decide (a1 = 9))) || (decide (a1 = 27))) || (decide (a1 = 127))))] rfl ?_
 refine oE ?_
 refine cwp_condB ((((decide (a1 = 13)) || (decide (a1 = 9))) || (decide (a1 = 27))) || (decide (a1 = 127))) (by kernel_rfl) (fun hc47 => ?_) (fun hc47 => ?_)
 · replace hM := ifTo hc47 hM
   refine cR ?_
   refine oS [(56, .bool ((decide (a2 = 0)) || (decide (a2 = 2)))), (2, .bool ((decide (a2 = 0)) || (decide (a2 = 2))))] rfl ?_
   refine oE (cwp_ret (blockE_r (thenE_r ?_)))
   subst hM
   exact ret_ (.bool ((decide (a2 = 0)) || (decide (a2 = 2)))) (by kernel_rfl) ⟨rfl, (New.ext hN5)⟩
 replace hM := ifFo hc47 hM
 refine cR ?_
 refine oS [(58, .pointer (some ⟨b3, 0, none⟩))] rfl ?_
 refine owp_rdG (.int .i64 a1) rfl (by kernel_rfl) (Eq.trans (b := (cellH h4 ⟨b3, 0, none⟩).bind fun v48 => some (.value v48)) (by kernel_rfl) (bindE (Blk.cell (New.blk hN5) 0 (by kernel_rfl)) _)) ?_
 refine owp_hpG rfl (by kernel_rfl) (hpCallP 33 #[.int .i64 a1] (.bool (ref21_special a1)) (by kernel_rfl) (ref21_special_ok a1 _ h4 rfl) ?_)
 intro h49 hx50
 have f51 := Blk.ext (New.blk hN5) hx50
 refine oS [(57, .bool (ref21_special a1))] rfl ?_
 refine oE ?_
 refine cwp_condB (ref21_special a1) (by kernel_rfl) (fun hc52 => ?_) (fun hc52 => ?_)
 · replace hM := ifTo hc52 hM
   refine cR ?_
   refine oS [(2, .bool true)] rfl ?_
   refine oE (cwp_ret (blockE_r (thenE_r ?_)))
   subst hM
   exact ret_ (.bool true) (by kernel_rfl) ⟨rfl, (Ext.trans (New.ext hN5) hx50)⟩
 replace hM := ifFo hc52 hM
 refine cR ?_
 refine oS [(62, .pointer (some ⟨b3, 0, none⟩))] rfl ?_
 refine owp_rdG (.int .i64 a1) rfl (by kernel_rfl) (Eq.trans (b := (cellH h49 ⟨b3, 0, none⟩).bind fun v53 => some (.value v53)) (by kernel_rfl) (bindE (Blk.cell f51 0 (by kernel_rfl)) _)) ?_
 refine oS [(64, .bool (decide (a1 = 16777239))), (61, .bool (decide (a1 = 16777239)))] rfl ?_
 refine oE ?_
 refine cwp_condD (a1 = 16777239) (by kernel_rfl) (fun hc54 => ?_) (fun hc54 => ?_)
 · replace hM := ifTo hc54 hM
   refine cR ?_
   refine oS [(65, .pointer (some ⟨b3, 1, none⟩))] rfl ?_
   refine owp_rdG (.int .i64 a2) rfl (by kernel_rfl) (Eq.trans (b := (cellH h49 ⟨b3, 1, none⟩).bind fun v55 => some (.value v55)) (by kernel_rfl) (bindE (Blk.cell f51 1 (by kernel_rfl)) _)) ?_
   refine oS [(67, .bool (decide (a2 = 0))), (2, .bool (decide (a2 = 0)))] rfl ?_
   refine oE (cwp_ret (blockE_r (thenE_r ?_)))
   subst hM
   exact ret_ (.bool (decide (a2 = 0))) (by kernel_rfl) ⟨rfl, (Ext.trans (New.ext hN5) hx50)⟩
 replace hM := ifFo hc54 hM
 refine cwp_skip (blockE_n (thenE_n (cR ?_)))
 refine oS [(68, .pointer (some ⟨b3, 0, none⟩))] rfl ?_
 refine owp_rdG (.int .i64 a1) rfl (by kernel_rfl) (Eq.trans (b := (cellH h49 ⟨b3, 0, none⟩).bind fun v56 => some (.value v56)) (by kernel_rfl) (bindE (Blk.cell f51 0 (by kernel_rfl)) _)) ?_
 refine owp_hpG rfl (by kernel_rfl) (hpCallP 34 #[.int .i64 a1] (.bool (ref21_character a1)) (by kernel_rfl) (ref21_character_ok a1 _ h49 rfl) ?_)
 intro h57 hx58
 have f59 := Blk.ext f51 hx58
 refine oS [(71, .bool (ref21_character a1))] rfl ?_
 refine oB ((ref21_character a1)) 2 [70, 71] (fun b_ => [(72, iteV b_ (.bool ((decide (a2 = 0)) || (decide (a2 = 2))) : Value) undef), (73, .bool (b_ && ((decide (a2 = 0)) || (decide (a2 = 2)))))]) rfl (fun hb60 hq61 => oS [(72, .bool ((decide (a2 = 0)) || (decide (a2 = 2)))), (73, .bool ((decide (a2 = 0)) || (decide (a2 = 2))))] rfl (hq61)) (fun hb62 hq63 => oS [(72, undef), (73, .bool false)] rfl (hq63)) ?_
 refine oS [(74, .bool ((ref21_character a1) && ((decide (a2 = 0)) || (decide (a2 = 2)))))] rfl ?_
 by_cases hc67 : ((ref21_character a1) && ((decide (a2 = 0)) || (decide (a2 = 2)))) = true
 · refine owp_at 73 (.bool true) (Eq.trans (b := .bool ((ref21_character a1) && ((decide (a2 = 0)) || (decide (a2 = 2))))) (by kernel_rfl) (by rw [hc67])) ?_
   refine owp_at 74 (.bool true) (Eq.trans (b := .bool ((ref21_character a1) && ((decide (a2 = 0)) || (decide (a2 = 2))))) (by kernel_rfl) (by rw [hc67])) ?_
   replace hM := ifTo hc67 hM
   refine oS [(75, undef), (76, undef), (77, undef), (78, undef), (79, undef), (80, undef), (81, .bool true), (2, .bool true)] rfl ?_
   refine oE (cwp_ret ?_)
   subst hM
   exact ret_ (.bool true) (by kernel_rfl) ⟨rfl, (Ext.trans (Ext.trans (New.ext hN5) hx50) hx58)⟩
 refine owp_at 73 (.bool false) (Eq.trans (b := .bool ((ref21_character a1) && ((decide (a2 = 0)) || (decide (a2 = 2))))) (by kernel_rfl) (by rw [Bool.eq_false_iff.2 hc67])) ?_
 refine owp_at 74 (.bool false) (Eq.trans (b := .bool ((ref21_character a1) && ((decide (a2 = 0)) || (decide (a2 = 2))))) (by kernel_rfl) (by rw [Bool.eq_false_iff.2 hc67])) ?_
 replace hM := ifFo hc67 hM
 refine oS [(75, .pointer (some ⟨b3, 0, none⟩))] rfl ?_
 refine owp_rdG (.int .i64 a1) rfl (by kernel_rfl) (Eq.trans (b := (cellH h57 ⟨b3, 0, none⟩).bind fun v68 => some (.value v68)) (by kernel_rfl) (bindE (Blk.cell f59 0 (by kernel_rfl)) _)) ?_
 refine owp_hpG rfl (by kernel_rfl) (hpCallP 35 #[.int .i64 a1] (.bool (ref21_controlled a1)) (by kernel_rfl) (ref21_controlled_ok a1 _ h57 rfl) ?_)
 intro h69 hx70
 have f71 := Blk.ext f59 hx70
 refine oS [(78, .bool (ref21_controlled a1))] rfl ?_
 refine oB ((ref21_controlled a1)) 2 [77, 78] (fun b_ => [(79, iteV b_ (.bool ((decide (a2 = 4)) || (decide (a2 = 6))) : Value) undef), (80, .bool (b_ && ((decide (a2 = 4)) || (decide (a2 = 6)))))]) rfl (fun hb72 hq73 => oS [(79, .bool ((decide (a2 = 4)) || (decide (a2 = 6)))), (80, .bool ((decide (a2 = 4)) || (decide (a2 = 6))))] rfl (hq73)) (fun hb74 hq75 => oS [(79, undef), (80, .bool false)] rfl (hq75)) ?_
 refine oS [(81, .bool ((ref21_controlled a1) && ((decide (a2 = 4)) || (decide (a2 = 6))))), (2, .bool ((ref21_controlled a1) && ((decide (a2 = 4)) || (decide (a2 = 6)))))] rfl ?_
 refine oE (cwp_ret ?_)
 subst hM
 exact ret_ (.bool ((ref21_controlled a1) && ((decide (a2 = 4)) || (decide (a2 = 6))))) (by kernel_rfl) ⟨rfl, (Ext.trans (Ext.trans (Ext.trans (New.ext hN5) hx50) hx58) hx70)⟩
/- mullion/mullionref21.letter -/
def ref21_letter_l0 (K0 : Heap → Prop) (Kr : ByteArray → Heap → Prop) : Nat → Int → Option Addr → Nat → Nat → Int → Heap → Prop
  | 0, _, _, _, _, _, _ => False
  | k + 1, y5, y6, y6n, y6c, y7, h =>
  if y7 < (y6n : Int) then
   nz y6 fun p11 =>
   0 ≤ y7 ∧
   y7 < (y6n : Int) ∧
   ldI h .i64 (p11.add ((y7).toNat * 1)) fun x12 =>
   if x12 = y5 then
    0 ≤ (IntKind.wrap .i64 (y7 + 1)) ∧
    (IntKind.wrap .i64 (y7 + 1)) ≤ ((⟨#[65, 66, 67, 68, 72, 70, 80, 81, 82, 83]⟩ : ByteArray).size : Int) ∧
    0 ≤ y7 ∧
    y7 ≤ (IntKind.wrap .i64 (y7 + 1)) ∧
    Kr ((⟨#[65, 66, 67, 68, 72, 70, 80, 81, 82, 83]⟩ : ByteArray).extract y7.toNat ((IntKind.wrap .i64 (y7 + 1)).toNat)) h
   else
   ref21_letter_l0 K0 Kr k y5 (some p11) y6n y6c (IntKind.wrap .i64 (y7 + 1)) h
  else
  K0  h
theorem ref21_letter_l0_ok {Q : Exit → Env → Heap → Prop} (K0 : Heap → Prop) (hK0 : ∀  (b : Env) (h : Heap), K0  h → Q (.exit 0) b h) (Kr : ByteArray → Heap → Prop) (hKr : ∀ (z22 : ByteArray) (b : Env) (h : Heap), Kr z22 h → Q .ret (upd b 2 (.string z22)) h) : ∀ (k : Nat) (y5 : Int) (y6 : Option Addr) (y6n : Nat) (y6c : Nat) (y7 : Int) (b : Env) (h : Heap) (hM : ref21_letter_l0 K0 Kr k y5 y6 y6n y6c y7 h), lwp Tryd.prog (partC Tryd.f51 [1, 1, 0, 1, 0, 0]) 22 Q k (upd (upd (upd b 0 (.int .i64 y5)) 3 (.slice y6 y6n y6c)) 4 (.int .i64 y7)) h := by
  intro k
  induction k with
  | zero => intro y5 y6 y6n y6c y7 b h hM; exact (show False from hM).elim
  | succ k ih =>
    intro y5 y6 y6n y6c y7 b h hM
    unfold ref21_letter_l0 at hM
    refine lwp_succ (cwp_part rfl ?_)
    refine cwp_seq (cR ?_)
    refine oS [(6, .int .i64 y7), (7, .slice y6 y6n y6c), (8, .int .i64 (y6n : Int)), (9, .bool (decide (y7 < (y6n : Int))))] rfl ?_
    refine oE ?_
    refine cwp_condD (y7 < (y6n : Int)) (by kernel_rfl) (fun hc8 => ?_) (fun hc8 => ?_)
    · replace hM := ifT hc8 hM
      refine cwp_skip (thenE_n (cwp_seq (cwp_block (cR ?_))))
      refine oS [(12, .slice y6 y6n y6c), (13, .int .i64 y7)] rfl ?_
      obtain ⟨p11, rfl, hM⟩ := hM
      obtain ⟨hc9, hM⟩ := hM
      obtain ⟨hc10, hM⟩ := hM
      refine owp_rdG (.pointer (some (p11.add ((y7).toNat * 1)))) rfl (by kernel_rfl) (rd_ixS (P := Tryd.prog) (h := h) (t := 71) (el := 3) (sz := 1) (ad := p11) (len := y6n) (c := y6c) (k := .i64) (i := y7) (by kernel_rfl) (by kernel_rfl) hc9 hc10 (by kernel_rfl)) ?_
      obtain ⟨x12, hc13, hM⟩ := hM
      refine owp_rdG (.int .i64 x12) rfl (by kernel_rfl) (Eq.trans (b := (cellH h (p11.add ((y7).toNat * 1))).bind fun v14 => some (.value v14)) (by kernel_rfl) (bindE hc13 _)) ?_
      refine oS [(16, .int .i64 y5), (17, .bool (decide (x12 = y5)))] rfl ?_
      refine oE ?_
      refine cwp_condD (x12 = y5) (by kernel_rfl) (fun hc15 => ?_) (fun hc15 => ?_)
      · replace hM := ifT hc15 hM
        refine cR ?_
        refine oS [(18, .int .i64 y7), (19, .int .i64 y7), (20, .int .i64 (IntKind.wrap .i64 (y7 + 1)))] rfl ?_
        obtain ⟨hc16, hM⟩ := hM
        obtain ⟨hc17, hM⟩ := hM
        obtain ⟨hc18, hM⟩ := hM
        obtain ⟨hc19, hM⟩ := hM
        refine owp_rdG (.string ((⟨#[65, 66, 67, 68, 72, 70, 80, 81, 82, 83]⟩ : ByteArray).extract y7.toNat ((IntKind.wrap .i64 (y7 + 1)).toNat))) rfl (by kernel_rfl) (rd_slLH (P := Tryd.prog) (h := h) (t := 9) (s := (⟨#[65, 66, 67, 68, 72, 70, 80, 81, 82, 83]⟩ : ByteArray)) (k := .i64) (k' := .i64) (i := y7) (j := (IntKind.wrap .i64 (y7 + 1))) (by kernel_rfl) hc16 hc17 hc18 hc19 (by kernel_rfl)) ?_
        refine oS [(2, .string ((⟨#[65, 66, 67, 68, 72, 70, 80, 81, 82, 83]⟩ : ByteArray).extract y7.toNat ((IntKind.wrap .i64 (y7 + 1)).toNat)))] rfl ?_
        refine oE (cwp_ret (blockE_r (thenE_r ?_)))
        exact q_at (Q := Q .ret) 2 (.string ((⟨#[65, 66, 67, 68, 72, 70, 80, 81, 82, 83]⟩ : ByteArray).extract y7.toNat ((IntKind.wrap .i64 (y7 + 1)).toNat))) (by kernel_rfl) (hKr ((⟨#[65, 66, 67, 68, 72, 70, 80, 81, 82, 83]⟩ : ByteArray).extract y7.toNat ((IntKind.wrap .i64 (y7 + 1)).toNat)) _ _ hM)
      replace hM := ifF hc15 hM
      refine cwp_skip (blockE_n (thenE_n (cwp_region ?_)))
      refine oS [(10, .int .i64 y7), (11, .int .i64 (IntKind.wrap .i64 (y7 + 1))), (4, .int .i64 (IntKind.wrap .i64 (y7 + 1)))] rfl ?_
      refine owp_nil ?_
      exact lwp_at 0 (.int .i64 y5) (by kernel_rfl) (lwp_at 3 (.slice (some p11) y6n y6c) (by kernel_rfl) (lwp_at 4 (.int .i64 (IntKind.wrap .i64 (y7 + 1))) (by kernel_rfl) (ih y5 (some p11) y6n y6c (IntKind.wrap .i64 (y7 + 1)) _ _ hM)))
    replace hM := ifF hc8 hM
    refine cwp_exit (thenE_x ?_)
    exact hK0  _ _ hM
def ref21_letter (a1 : Int) (K : ByteArray → Heap → Prop) (h : Heap) : Prop :=
 newB h #[.int .i64 16777217, .int .i64 16777218, .int .i64 16777219, .int .i64 16777220, .int .i64 16777221, .int .i64 16777222, .int .i64 16777227, .int .i64 16777228, .int .i64 16777229, .int .i64 16777230] 3 fun b2 h3 =>
 ∃ k28, ref21_letter_l0
  (fun  h23 =>
      K (⟨#[]⟩ : ByteArray) h23)
  (fun z25 h26 =>
      K z25 h26) k28 a1 (some ⟨b2, 0, none⟩) 10 10 0 h3
theorem ref21_letter_ok (a1 : Int) (K : ByteArray → Heap → Prop) (h : Heap) (hM : ref21_letter a1 K h) : CallsH Tryd.prog 51 #[.int .i64 a1] (fun v h' => ∃ (r29 : ByteArray), v = .string r29 ∧ K r29 h') h := by
 unfold ref21_letter at hM
 refine callsH_intro (n := 22) Tryd.func51 rfl rfl (by kernel_rfl) ?_
 refine cR ?_
 refine oS [(2, .string (⟨#[]⟩ : ByteArray))] rfl ?_
 refine oE (cR ?_)
 refine owp_hpG rfl (by kernel_rfl) (hpNewS #[.int .i64 16777217, .int .i64 16777218, .int .i64 16777219, .int .i64 16777220, .int .i64 16777221, .int .i64 16777222, .int .i64 16777227, .int .i64 16777228, .int .i64 16777229, .int .i64 16777230] 3 10 (fun _ => by kernel_rfl) ?_)
 intro b2 h3 hN4
 replace hM := newB_of hN4 hM
 refine oS [(3, .slice (some ⟨b2, 0, none⟩) 10 10)] rfl ?_
 refine oE (cwp_seq (cR ?_))
 refine oS [(4, .int .i64 0)] rfl ?_
 refine oE (cwp_block ?_)
 obtain ⟨k_, hM⟩ := hM
 refine cwp_loop k_ (lwp_of_part (fn := Tryd.f51) (p := [1, 1, 0, 1, 0, 0]) (by kernel_rfl) (lwp_at 0 (.int .i64 a1) (by kernel_rfl) (lwp_at 3 (.slice (some ⟨b2, 0, none⟩) 10 10) (by kernel_rfl) (lwp_at 4 (.int .i64 0) (by kernel_rfl) (ref21_letter_l0_ok _ ?_ _ ?_ k_ a1 (some ⟨b2, 0, none⟩) 10 10 0 _ _ hM)))))
 · intro  b24 h23 hM
   refine blockE_h (thenE_n (cR ?_))
   refine oS [(2, .string (⟨#[]⟩ : ByteArray))] rfl ?_
   refine oE (cwp_ret ?_)
   exact ret_ (.string (⟨#[]⟩ : ByteArray)) (by kernel_rfl) ⟨_, rfl, hM⟩
 · intro z25 b27 h26 hM
   refine blockE_r (thenE_r ?_)
   exact ret_ (.string z25) (by kernel_rfl) ⟨_, rfl, hM⟩
/- mullion/mullionref01.PutNumber -/
def ref01_PutNumber : Nat → Int → (ByteArray → Heap → Prop) → Heap → Prop
  | 0, _, _, _ => False
  | fuel + 1, a1, K, h =>
  if ((decide (a1 < 0)) || (decide (4611686018427387904 < a1))) = true then
   K (⟨#[]⟩ : ByteArray) h
  else
  if a1 < 10 then
   gap h fun h9 =>
   K (bytesOf [IntKind.wrap .u8 (IntKind.wrap .i64 (48 + a1))]) h9
  else
  ref01_PutNumber fuel (IntKind.wrap .i64 (Int.tdiv a1 10)) (fun x12 h11 =>
   ref01_PutNumber fuel (Int.tmod a1 10) (fun x14 h13 =>
    x12.size + x14.size ≤ 9223372036854775807 ∧
      K (x12 ++ x14) h13) h11) h
theorem ref01_PutNumber_ok : ∀ (k : Nat) (a1 : Int) (K : ByteArray → Heap → Prop) (h : Heap) (hM : ref01_PutNumber k a1 K h), CallsH Tryd.prog 53 #[.int .i64 a1] (fun v h' => ∃ (r16 : ByteArray), v = .string r16 ∧ K r16 h') h := by
 intro k
 induction k with
 | zero => intro a1 K h hM; unfold ref01_PutNumber at hM; exact hM.elim
 | succ fuel ih =>
  intro a1 K h hM
  unfold ref01_PutNumber at hM
  refine callsH_intro (n := 23) Tryd.func53 rfl rfl (by kernel_rfl) ?_
  refine cR ?_
  refine oS [(2, .string (⟨#[]⟩ : ByteArray))] rfl ?_
  refine oE (cwp_seq (cR ?_))
  refine oS [(3, .int .i64 a1), (4, .bool (decide (a1 < 0))), (5, .bool (decide (a1 < 0)))] rfl ?_
  refine oB (decide (a1 < 0)) 3 [4, 5] (fun b_ => [(6, iteV b_ undef (.int .i64 a1 : Value)), (7, iteV b_ undef (.bool (decide (4611686018427387904 < a1)) : Value)), (8, .bool (b_ || (decide (4611686018427387904 < a1))))]) rfl (fun hb2 hq3 => oS [(6, undef), (7, undef), (8, .bool true)] rfl (hq3)) (fun hb4 hq5 => oS [(6, .int .i64 a1), (7, .bool (decide (4611686018427387904 < a1))), (8, .bool (decide (4611686018427387904 < a1)))] rfl (hq5)) ?_
  refine oE ?_
  refine cwp_condB ((decide (a1 < 0)) || (decide (4611686018427387904 < a1))) (by kernel_rfl) (fun hc6 => ?_) (fun hc6 => ?_)
  · replace hM := ifT hc6 hM
    refine cR ?_
    refine oS [(2, .string (⟨#[]⟩ : ByteArray))] rfl ?_
    refine oE (cwp_ret (thenE_r ?_))
    exact ret_ (.string (⟨#[]⟩ : ByteArray)) (by kernel_rfl) ⟨_, rfl, hM⟩
  replace hM := ifF hc6 hM
  refine cwp_skip (thenE_n (cwp_seq (cR ?_)))
  refine oS [(9, .int .i64 a1), (10, .bool (decide (a1 < 10)))] rfl ?_
  refine oE ?_
  refine cwp_condD (a1 < 10) (by kernel_rfl) (fun hc7 => ?_) (fun hc7 => ?_)
  · replace hM := ifT hc7 hM
    refine cR ?_
    refine oS [(11, .int .i64 a1), (12, .int .i64 (IntKind.wrap .i64 (48 + a1))), (13, .int .u8 (IntKind.wrap .u8 (IntKind.wrap .i64 (48 + a1))))] rfl ?_
    refine owp_hpG rfl (by kernel_rfl) (hpNewS #[.int .u8 (IntKind.wrap .u8 (IntKind.wrap .i64 (48 + a1)))] 5 1 (fun _ => by kernel_rfl) ?_)
    intro b8 h9 hN10
    refine owp_rdG (.string (bytesOf [IntKind.wrap .u8 (IntKind.wrap .i64 (48 + a1))])) rfl (by kernel_rfl) (rd_bytes (P := Tryd.prog) (h := h9) (c := 1) [IntKind.wrap .u8 (IntKind.wrap .i64 (48 + a1))] ⟨Blk.cell (New.blk hN10) 0 (by kernel_rfl), trivial⟩ (by kernel_rfl)) ?_
    refine oS [(2, .string (bytesOf [IntKind.wrap .u8 (IntKind.wrap .i64 (48 + a1))]))] rfl ?_
    refine oE (cwp_ret (thenE_r ?_))
    replace hM := hM _ (New.ext hN10)
    exact ret_ (.string (bytesOf [IntKind.wrap .u8 (IntKind.wrap .i64 (48 + a1))])) (by kernel_rfl) ⟨_, rfl, hM⟩
  replace hM := ifF hc7 hM
  refine cwp_skip (thenE_n (cR ?_))
  refine oS [(16, .int .i64 a1), (17, .int .i64 (IntKind.wrap .i64 (Int.tdiv a1 10)))] rfl ?_
  refine owp_hpG rfl (by kernel_rfl) (hpCallE 53 #[.int .i64 (IntKind.wrap .i64 (Int.tdiv a1 10))] (by kernel_rfl) (ih (IntKind.wrap .i64 (Int.tdiv a1 10)) _ h hM) ?_)
  rintro _ h11 ⟨x12, rfl, hM⟩
  refine oS [(19, .int .i64 a1), (20, .int .i64 (Int.tmod a1 10))] rfl ?_
  refine owp_hpG rfl (by kernel_rfl) (hpCallE 53 #[.int .i64 (Int.tmod a1 10)] (by kernel_rfl) (ih (Int.tmod a1 10) _ h11 hM) ?_)
  rintro _ h13 ⟨x14, rfl, hM⟩
  obtain ⟨hc15, hM⟩ := hM
  refine owp_rdG (.string (x12 ++ x14)) rfl (by kernel_rfl) (rd_cat (P := Tryd.prog) (h := h13) (x := x12) (y := x14) hc15 (by kernel_rfl)) ?_
  refine oS [(2, .string (x12 ++ x14))] rfl ?_
  refine oE (cwp_ret ?_)
  exact ret_ (.string (x12 ++ x14)) (by kernel_rfl) ⟨_, rfl, hM⟩
/- mullion/mullionref21.number -/
def ref21_number_l0 (K0 : Heap → Prop) (Kr : Int → Heap → Prop) : Nat → Int → Option Addr → Nat → Nat → Option Addr → Nat → Nat → Int → Heap → Prop
  | 0, _, _, _, _, _, _, _, _, _ => False
  | k + 1, y8, y9, y9n, y9c, y10, y10n, y10c, y11, h =>
  if y11 < (y9n : Int) then
   nz y9 fun p15 =>
   0 ≤ y11 ∧
   y11 < (y9n : Int) ∧
   ldI h .i64 (p15.add ((y11).toNat * 1)) fun x16 =>
   if x16 = y8 then
    nz y10 fun p22 =>
    0 ≤ y11 ∧
    y11 < (y10n : Int) ∧
    ldI h .i64 (p22.add ((y11).toNat * 1)) fun x23 =>
    Kr x23 h
   else
   ref21_number_l0 K0 Kr k y8 (some p15) y9n y9c y10 y10n y10c (IntKind.wrap .i64 (y11 + 1)) h
  else
  K0  h
theorem ref21_number_l0_ok {Q : Exit → Env → Heap → Prop} (K0 : Heap → Prop) (hK0 : ∀  (b : Env) (h : Heap), K0  h → Q (.exit 0) b h) (Kr : Int → Heap → Prop) (hKr : ∀ (z28 : Int) (b : Env) (h : Heap), Kr z28 h → Q .ret (upd b 2 (.int .i64 z28)) h) : ∀ (k : Nat) (y8 : Int) (y9 : Option Addr) (y9n : Nat) (y9c : Nat) (y10 : Option Addr) (y10n : Nat) (y10c : Nat) (y11 : Int) (b : Env) (h : Heap) (hM : ref21_number_l0 K0 Kr k y8 y9 y9n y9c y10 y10n y10c y11 h), lwp Tryd.prog (partC Tryd.f54 [1, 1, 1, 0, 1, 0, 0]) 24 Q k (upd (upd (upd (upd b 0 (.int .i64 y8)) 3 (.slice y9 y9n y9c)) 4 (.slice y10 y10n y10c)) 5 (.int .i64 y11)) h := by
  intro k
  induction k with
  | zero => intro y8 y9 y9n y9c y10 y10n y10c y11 b h hM; exact (show False from hM).elim
  | succ k ih =>
    intro y8 y9 y9n y9c y10 y10n y10c y11 b h hM
    unfold ref21_number_l0 at hM
    refine lwp_succ (cwp_part rfl ?_)
    refine cwp_seq (cR ?_)
    refine oS [(8, .int .i64 y11), (9, .slice y9 y9n y9c), (10, .int .i64 (y9n : Int)), (11, .bool (decide (y11 < (y9n : Int))))] rfl ?_
    refine oE ?_
    refine cwp_condD (y11 < (y9n : Int)) (by kernel_rfl) (fun hc12 => ?_) (fun hc12 => ?_)
    · replace hM := ifT hc12 hM
      refine cwp_skip (thenE_n (cwp_seq (cwp_block (cR ?_))))
      refine oS [(14, .slice y9 y9n y9c), (15, .int .i64 y11)] rfl ?_
      obtain ⟨p15, rfl, hM⟩ := hM
      obtain ⟨hc13, hM⟩ := hM
      obtain ⟨hc14, hM⟩ := hM
      refine owp_rdG (.pointer (some (p15.add ((y11).toNat * 1)))) rfl (by kernel_rfl) (rd_ixS (P := Tryd.prog) (h := h) (t := 71) (el := 3) (sz := 1) (ad := p15) (len := y9n) (c := y9c) (k := .i64) (i := y11) (by kernel_rfl) (by kernel_rfl) hc13 hc14 (by kernel_rfl)) ?_
      obtain ⟨x16, hc17, hM⟩ := hM
      refine owp_rdG (.int .i64 x16) rfl (by kernel_rfl) (Eq.trans (b := (cellH h (p15.add ((y11).toNat * 1))).bind fun v18 => some (.value v18)) (by kernel_rfl) (bindE hc17 _)) ?_
      refine oS [(18, .int .i64 y8), (19, .bool (decide (x16 = y8)))] rfl ?_
      refine oE ?_
      refine cwp_condD (x16 = y8) (by kernel_rfl) (fun hc19 => ?_) (fun hc19 => ?_)
      · replace hM := ifT hc19 hM
        refine cR ?_
        refine oS [(20, .slice y10 y10n y10c), (21, .int .i64 y11)] rfl ?_
        obtain ⟨p22, rfl, hM⟩ := hM
        obtain ⟨hc20, hM⟩ := hM
        obtain ⟨hc21, hM⟩ := hM
        refine owp_rdG (.pointer (some (p22.add ((y11).toNat * 1)))) rfl (by kernel_rfl) (rd_ixS (P := Tryd.prog) (h := h) (t := 71) (el := 3) (sz := 1) (ad := p22) (len := y10n) (c := y10c) (k := .i64) (i := y11) (by kernel_rfl) (by kernel_rfl) hc20 hc21 (by kernel_rfl)) ?_
        obtain ⟨x23, hc24, hM⟩ := hM
        refine owp_rdG (.int .i64 x23) rfl (by kernel_rfl) (Eq.trans (b := (cellH h (p22.add ((y11).toNat * 1))).bind fun v25 => some (.value v25)) (by kernel_rfl) (bindE hc24 _)) ?_
        refine oS [(2, .int .i64 x23)] rfl ?_
        refine oE (cwp_ret (blockE_r (thenE_r ?_)))
        exact q_at (Q := Q .ret) 2 (.int .i64 x23) (by kernel_rfl) (hKr x23 _ _ hM)
      replace hM := ifF hc19 hM
      refine cwp_skip (blockE_n (thenE_n (cwp_region ?_)))
      refine oS [(12, .int .i64 y11), (13, .int .i64 (IntKind.wrap .i64 (y11 + 1))), (5, .int .i64 (IntKind.wrap .i64 (y11 + 1)))] rfl ?_
      refine owp_nil ?_
      exact lwp_at 0 (.int .i64 y8) (by kernel_rfl) (lwp_at 3 (.slice (some p15) y9n y9c) (by kernel_rfl) (lwp_at 4 (.slice y10 y10n y10c) (by kernel_rfl) (lwp_at 5 (.int .i64 (IntKind.wrap .i64 (y11 + 1))) (by kernel_rfl) (ih y8 (some p15) y9n y9c y10 y10n y10c (IntKind.wrap .i64 (y11 + 1)) _ _ hM))))
    replace hM := ifF hc12 hM
    refine cwp_exit (thenE_x ?_)
    exact hK0  _ _ hM
def ref21_number (a1 : Int) (K : Int → Heap → Prop) (h : Heap) : Prop :=
 newB h #[.int .i64 16777223, .int .i64 16777224, .int .i64 16777225, .int .i64 16777226, .int .i64 16777231, .int .i64 16777232, .int .i64 16777233, .int .i64 16777234, .int .i64 16777235, .int .i64 16777236, .int .i64 16777237, .int .i64 16777238] 3 fun b2 h3 =>
 newB h3 #[.int .i64 2, .int .i64 3, .int .i64 5, .int .i64 6, .int .i64 15, .int .i64 17, .int .i64 18, .int .i64 19, .int .i64 20, .int .i64 21, .int .i64 23, .int .i64 24] 3 fun b5 h6 =>
 ∃ k34, ref21_number_l0
  (fun  h29 =>
      K 0 h29)
  (fun z31 h32 =>
      K z31 h32) k34 a1 (some ⟨b2, 0, none⟩) 12 12 (some ⟨b5, 0, none⟩) 12 12 0 h6
theorem ref21_number_ok (a1 : Int) (K : Int → Heap → Prop) (h : Heap) (hM : ref21_number a1 K h) : CallsH Tryd.prog 54 #[.int .i64 a1] (fun v h' => ∃ (r35 : Int), v = .int .i64 r35 ∧ K r35 h') h := by
 unfold ref21_number at hM
 refine callsH_intro (n := 24) Tryd.func54 rfl rfl (by kernel_rfl) ?_
 refine cR ?_
 refine oS [(2, .int .i64 0)] rfl ?_
 refine oE (cR ?_)
 refine owp_hpG rfl (by kernel_rfl) (hpNewS #[.int .i64 16777223, .int .i64 16777224, .int .i64 16777225, .int .i64 16777226, .int .i64 16777231, .int .i64 16777232, .int .i64 16777233, .int .i64 16777234, .int .i64 16777235, .int .i64 16777236, .int .i64 16777237, .int .i64 16777238] 3 12 (fun _ => by kernel_rfl) ?_)
 intro b2 h3 hN4
 replace hM := newB_of hN4 hM
 refine oS [(3, .slice (some ⟨b2, 0, none⟩) 12 12)] rfl ?_
 refine oE (cR ?_)
 refine owp_hpG rfl (by kernel_rfl) (hpNewS #[.int .i64 2, .int .i64 3, .int .i64 5, .int .i64 6, .int .i64 15, .int .i64 17, .int .i64 18, .int .i64 19, .int .i64 20, .int .i64 21, .int .i64 23, .int .i64 24] 3 12 (fun _ => by kernel_rfl) ?_)
 intro b5 h6 hN7
 replace hM := newB_of hN7 hM
 refine oS [(4, .slice (some ⟨b5, 0, none⟩) 12 12)] rfl ?_
 refine oE (cwp_seq (cR ?_))
 refine oS [(5, .int .i64 0)] rfl ?_
 refine oE (cwp_block ?_)
 obtain ⟨k_, hM⟩ := hM
 refine cwp_loop k_ (lwp_of_part (fn := Tryd.f54) (p := [1, 1, 1, 0, 1, 0, 0]) (by kernel_rfl) (lwp_at 0 (.int .i64 a1) (by kernel_rfl) (lwp_at 3 (.slice (some ⟨b2, 0, none⟩) 12 12) (by kernel_rfl) (lwp_at 4 (.slice (some ⟨b5, 0, none⟩) 12 12) (by kernel_rfl) (lwp_at 5 (.int .i64 0) (by kernel_rfl) (ref21_number_l0_ok _ ?_ _ ?_ k_ a1 (some ⟨b2, 0, none⟩) 12 12 (some ⟨b5, 0, none⟩) 12 12 0 _ _ hM))))))
 · intro  b30 h29 hM
   refine blockE_h (thenE_n (cR ?_))
   refine oS [(2, .int .i64 0)] rfl ?_
   refine oE (cwp_ret ?_)
   exact ret_ (.int .i64 0) (by kernel_rfl) ⟨_, rfl, hM⟩
 · intro z31 b33 h32 hM
   refine blockE_r (thenE_r ?_)
   exact ret_ (.int .i64 z31) (by kernel_rfl) ⟨_, rfl, hM⟩
/- mullion/mullionref21.sequence -/
def ref21_sequence (a1 : Int) (a2 : Int) (a3 : Bool) (K : ByteArray → Heap → Prop) (h : Heap) : Prop :=
 newB h #[.int .i64 a1, .int .i64 a2] 36 fun b4 h5 =>
 ldI h5 .i64 ⟨b4, 0, none⟩ fun x7 =>
 ref21_letter x7 (fun x11 h10 =>
  ldI h10 .i64 ⟨b4, 1, none⟩ fun x12 =>
  ∃ k17,
  ref01_PutNumber k17 (IntKind.wrap .i64 (x12 + 1)) (fun x16 h15 =>
   ldI h15 .i64 ⟨b4, 0, none⟩ fun x18 =>
   ref21_number x18 (fun x22 h21 =>
    ∃ k25,
    ref01_PutNumber k25 x22 (fun x24 h23 =>
     if (!(x11.toList == (⟨#[]⟩ : ByteArray).toList)) = true then
      ldI h23 .i64 ⟨b4, 1, none⟩ fun x30 =>
      if 0 < x30 then
       (⟨#[27, 91, 49, 59]⟩ : ByteArray).size + x16.size ≤ 9223372036854775807 ∧
       ((⟨#[27, 91, 49, 59]⟩ : ByteArray) ++ x16).size + x11.size ≤ 9223372036854775807 ∧
       K (((⟨#[27, 91, 49, 59]⟩ : ByteArray) ++ x16) ++ x11) h23
      else
      if a3 = true then
       (⟨#[27, 79]⟩ : ByteArray).size + x11.size ≤ 9223372036854775807 ∧
       K ((⟨#[27, 79]⟩ : ByteArray) ++ x11) h23
      else
      ldI h23 .i64 ⟨b4, 0, none⟩ fun x41 =>
      if 16777227 ≤ x41 then
       (⟨#[27, 79]⟩ : ByteArray).size + x11.size ≤ 9223372036854775807 ∧
       K ((⟨#[27, 79]⟩ : ByteArray) ++ x11) h23
      else
      (⟨#[27, 91]⟩ : ByteArray).size + x11.size ≤ 9223372036854775807 ∧
      K ((⟨#[27, 91]⟩ : ByteArray) ++ x11) h23
     else
     ldI h23 .i64 ⟨b4, 1, none⟩ fun x47 =>
     if 0 < x47 then
      (⟨#[27, 91]⟩ : ByteArray).size + x24.size ≤ 9223372036854775807 ∧
      ((⟨#[27, 91]⟩ : ByteArray) ++ x24).size + (⟨#[59]⟩ : ByteArray).size ≤ 9223372036854775807 ∧
      (((⟨#[27, 91]⟩ : ByteArray) ++ x24) ++ (⟨#[59]⟩ : ByteArray)).size + x16.size ≤ 9223372036854775807 ∧
      ((((⟨#[27, 91]⟩ : ByteArray) ++ x24) ++ (⟨#[59]⟩ : ByteArray)) ++ x16).size + (⟨#[126]⟩ : ByteArray).size ≤ 9223372036854775807 ∧
      K (((((⟨#[27, 91]⟩ : ByteArray) ++ x24) ++ (⟨#[59]⟩ : ByteArray)) ++ x16) ++ (⟨#[126]⟩ : ByteArray)) h23
     else
     (⟨#[27, 91]⟩ : ByteArray).size + x24.size ≤ 9223372036854775807 ∧
     ((⟨#[27, 91]⟩ : ByteArray) ++ x24).size + (⟨#[126]⟩ : ByteArray).size ≤ 9223372036854775807 ∧
         K (((⟨#[27, 91]⟩ : ByteArray) ++ x24) ++ (⟨#[126]⟩ : ByteArray)) h23) h21) h15) h10) h5
theorem ref21_sequence_ok (a1 : Int) (a2 : Int) (a3 : Bool) (K : ByteArray → Heap → Prop) (h : Heap) (hM : ref21_sequence a1 a2 a3 K h) : CallsH Tryd.prog 41 #[.agg #[.int .i64 a1, .int .i64 a2], .bool a3] (fun v h' => ∃ (r57 : ByteArray), v = .string r57 ∧ K r57 h') h := by
 unfold ref21_sequence at hM
 refine callsH_intro (n := 62) Tryd.func41 rfl rfl (by kernel_rfl) ?_
 refine cR ?_
 refine owp_hpG rfl (by kernel_rfl) (hpNew #[.int .i64 a1, .int .i64 a2] 36 (fun _ => by kernel_rfl) ?_)
 intro b4 h5 hN6
 replace hM := newB_of hN6 hM
 refine oS [(4, .string (⟨#[]⟩ : ByteArray))] rfl ?_
 refine oE (cR ?_)
 refine oS [(8, .pointer (some ⟨b4, 0, none⟩))] rfl ?_
 obtain ⟨x7, hc8, hM⟩ := hM
 refine owp_rdG (.int .i64 x7) rfl (by kernel_rfl) (Eq.trans (b := (cellH h5 ⟨b4, 0, none⟩).bind fun v9 => some (.value v9)) (by kernel_rfl) (bindE hc8 _)) ?_
 refine owp_hpG rfl (by kernel_rfl) (hpCallE 51 #[.int .i64 x7] (by kernel_rfl) (ref21_letter_ok x7 _ h5 hM) ?_)
 rintro _ h10 ⟨x11, rfl, hM⟩
 refine oS [(5, .string x11)] rfl ?_
 refine oE (cR ?_)
 refine oS [(11, .pointer (some ⟨b4, 1, none⟩))] rfl ?_
 obtain ⟨x12, hc13, hM⟩ := hM
 refine owp_rdG (.int .i64 x12) rfl (by kernel_rfl) (Eq.trans (b := (cellH h10 ⟨b4, 1, none⟩).bind fun v14 => some (.value v14)) (by kernel_rfl) (bindE hc13 _)) ?_
 refine oS [(13, .int .i64 (IntKind.wrap .i64 (x12 + 1)))] rfl ?_
 obtain ⟨k17, hM⟩ := hM
 refine owp_hpG rfl (by kernel_rfl) (hpCallE 53 #[.int .i64 (IntKind.wrap .i64 (x12 + 1))] (by kernel_rfl) (ref01_PutNumber_ok k17 (IntKind.wrap .i64 (x12 + 1)) _ h10 hM) ?_)
 rintro _ h15 ⟨x16, rfl, hM⟩
 refine oS [(6, .string x16)] rfl ?_
 refine oE (cR ?_)
 refine oS [(15, .pointer (some ⟨b4, 0, none⟩))] rfl ?_
 obtain ⟨x18, hc19, hM⟩ := hM
 refine owp_rdG (.int .i64 x18) rfl (by kernel_rfl) (Eq.trans (b := (cellH h15 ⟨b4, 0, none⟩).bind fun v20 => some (.value v20)) (by kernel_rfl) (bindE hc19 _)) ?_
 refine owp_hpG rfl (by kernel_rfl) (hpCallE 54 #[.int .i64 x18] (by kernel_rfl) (ref21_number_ok x18 _ h15 hM) ?_)
 rintro _ h21 ⟨x22, rfl, hM⟩
 obtain ⟨k25, hM⟩ := hM
 refine owp_hpG rfl (by kernel_rfl) (hpCallE 53 #[.int .i64 x22] (by kernel_rfl) (ref01_PutNumber_ok k25 x22 _ h21 hM) ?_)
 rintro _ h23 ⟨x24, rfl, hM⟩
 refine oS [(7, .string x24)] rfl ?_
 refine oE (cwp_seq (cwp_block (cR ?_)))
 refine oS [(20, .string x11), (21, .bool (!(x11.toList == (⟨#[]⟩ : ByteArray).toList))), (22, .bool (!(x11.toList == (⟨#[]⟩ : ByteArray).toList)))] rfl ?_
 by_cases hc29 : (!(x11.toList == (⟨#[]⟩ : ByteArray).toList)) = true
 · refine owp_at 21 (.bool true) (Eq.trans (b := .bool (!(x11.toList == (⟨#[]⟩ : ByteArray).toList))) (by kernel_rfl) (by rw [hc29])) ?_
   refine owp_at 22 (.bool true) (Eq.trans (b := .bool (!(x11.toList == (⟨#[]⟩ : ByteArray).toList))) (by kernel_rfl) (by rw [hc29])) ?_
   replace hM := ifT hc29 hM
   refine oS [(23, .pointer (some ⟨b4, 1, none⟩))] rfl ?_
   obtain ⟨x30, hc31, hM⟩ := hM
   refine owp_rdG (.int .i64 x30) rfl (by kernel_rfl) (Eq.trans (b := (cellH h23 ⟨b4, 1, none⟩).bind fun v32 => some (.value v32)) (by kernel_rfl) (bindE hc31 _)) ?_
   refine oS [(25, .bool (decide (0 < x30))), (26, .bool (decide (0 < x30))), (19, .bool (decide (0 < x30)))] rfl ?_
   refine oE ?_
   refine cwp_condD (0 < x30) (by kernel_rfl) (fun hc33 => ?_) (fun hc33 => ?_)
   · replace hM := ifT hc33 hM
     refine cR ?_
     refine oS [(27, .string x16)] rfl ?_
     obtain ⟨hc34, hM⟩ := hM
     refine owp_rdG (.string ((⟨#[27, 91, 49, 59]⟩ : ByteArray) ++ x16)) rfl (by kernel_rfl) (rd_cat (P := Tryd.prog) (h := h23) (x := (⟨#[27, 91, 49, 59]⟩ : ByteArray)) (y := x16) hc34 (by kernel_rfl)) ?_
     refine oS [(29, .string x11)] rfl ?_
     obtain ⟨hc35, hM⟩ := hM
     refine owp_rdG (.string (((⟨#[27, 91, 49, 59]⟩ : ByteArray) ++ x16) ++ x11)) rfl (by kernel_rfl) (rd_cat (P := Tryd.prog) (h := h23) (x := ((⟨#[27, 91, 49, 59]⟩ : ByteArray) ++ x16)) (y := x11) hc35 (by kernel_rfl)) ?_
     refine oS [(4, .string (((⟨#[27, 91, 49, 59]⟩ : ByteArray) ++ x16) ++ x11))] rfl ?_
     refine oE (cwp_ret (blockE_r (thenE_r ?_)))
     exact ret_ (.string (((⟨#[27, 91, 49, 59]⟩ : ByteArray) ++ x16) ++ x11)) (by kernel_rfl) ⟨_, rfl, hM⟩
   replace hM := ifF hc33 hM
   refine cR ?_
   refine oS [(32, .string x11), (33, .bool (!(x11.toList == (⟨#[]⟩ : ByteArray).toList))), (34, .bool (!(x11.toList == (⟨#[]⟩ : ByteArray).toList)))] rfl ?_
   refine owp_at 33 (.bool true) (Eq.trans (b := .bool (!(x11.toList == (⟨#[]⟩ : ByteArray).toList))) (by kernel_rfl) (by rw [hc29])) ?_
   refine owp_at 34 (.bool true) (Eq.trans (b := .bool (!(x11.toList == (⟨#[]⟩ : ByteArray).toList))) (by kernel_rfl) (by rw [hc29])) ?_
   refine oS [(35, .bool a3), (36, .bool a3)] rfl ?_
   by_cases hc39 : a3 = true
   · refine owp_at 1 (.bool true) (Eq.trans (b := .bool a3) (by kernel_rfl) (by rw [hc39])) ?_
     refine owp_at 35 (.bool true) (Eq.trans (b := .bool a3) (by kernel_rfl) (by rw [hc39])) ?_
     refine owp_at 36 (.bool true) (Eq.trans (b := .bool a3) (by kernel_rfl) (by rw [hc39])) ?_
     replace hM := ifT hc39 hM
     refine oS [(37, undef), (38, undef), (39, undef), (40, .bool true), (41, .bool true), (31, .bool true)] rfl ?_
     refine oE ?_
     refine cwp_cond (t := true) (by kernel_rfl) (fun hx_ => ?_) (fun hx_ => ?_)
     all_goals first | (cases hx_; done) | skip
     refine cR ?_
     refine oS [(42, .string x11)] rfl ?_
     obtain ⟨hc40, hM⟩ := hM
     refine owp_rdG (.string ((⟨#[27, 79]⟩ : ByteArray) ++ x11)) rfl (by kernel_rfl) (rd_cat (P := Tryd.prog) (h := h23) (x := (⟨#[27, 79]⟩ : ByteArray)) (y := x11) hc40 (by kernel_rfl)) ?_
     refine oS [(4, .string ((⟨#[27, 79]⟩ : ByteArray) ++ x11))] rfl ?_
     refine oE (cwp_ret (blockE_r (thenE_r ?_)))
     exact ret_ (.string ((⟨#[27, 79]⟩ : ByteArray) ++ x11)) (by kernel_rfl) ⟨_, rfl, hM⟩
   refine owp_at 1 (.bool false) (Eq.trans (b := .bool a3) (by kernel_rfl) (by rw [Bool.eq_false_iff.2 hc39])) ?_
   refine owp_at 35 (.bool false) (Eq.trans (b := .bool a3) (by kernel_rfl) (by rw [Bool.eq_false_iff.2 hc39])) ?_
   refine owp_at 36 (.bool false) (Eq.trans (b := .bool a3) (by kernel_rfl) (by rw [Bool.eq_false_iff.2 hc39])) ?_
   replace hM := ifF hc39 hM
   refine oS [(37, .pointer (some ⟨b4, 0, none⟩))] rfl ?_
   obtain ⟨x41, hc42, hM⟩ := hM
   refine owp_rdG (.int .i64 x41) rfl (by kernel_rfl) (Eq.trans (b := (cellH h23 ⟨b4, 0, none⟩).bind fun v43 => some (.value v43)) (by kernel_rfl) (bindE hc42 _)) ?_
   refine oS [(39, .bool (decide (16777227 ≤ x41))), (40, .bool (decide (16777227 ≤ x41))), (41, .bool (decide (16777227 ≤ x41))), (31, .bool (decide (16777227 ≤ x41)))] rfl ?_
   refine oE ?_
   refine cwp_condD (16777227 ≤ x41) (by kernel_rfl) (fun hc44 => ?_) (fun hc44 => ?_)
   · replace hM := ifT hc44 hM
     refine cR ?_
     refine oS [(42, .string x11)] rfl ?_
     obtain ⟨hc45, hM⟩ := hM
     refine owp_rdG (.string ((⟨#[27, 79]⟩ : ByteArray) ++ x11)) rfl (by kernel_rfl) (rd_cat (P := Tryd.prog) (h := h23) (x := (⟨#[27, 79]⟩ : ByteArray)) (y := x11) hc45 (by kernel_rfl)) ?_
     refine oS [(4, .string ((⟨#[27, 79]⟩ : ByteArray) ++ x11))] rfl ?_
     refine oE (cwp_ret (blockE_r (thenE_r ?_)))
     exact ret_ (.string ((⟨#[27, 79]⟩ : ByteArray) ++ x11)) (by kernel_rfl) ⟨_, rfl, hM⟩
   replace hM := ifF hc44 hM
   refine cR ?_
   refine oS [(45, .string x11), (46, .bool (!(x11.toList == (⟨#[]⟩ : ByteArray).toList))), (44, .bool (!(x11.toList == (⟨#[]⟩ : ByteArray).toList)))] rfl ?_
   refine oE ?_
   refine cwp_condB (!(x11.toList == (⟨#[]⟩ : ByteArray).toList)) (by kernel_rfl) (fun _ => ?_) (fun hn_ => absurd hc29 hn_)
   refine cR ?_
   refine oS [(47, .string x11)] rfl ?_
   obtain ⟨hc46, hM⟩ := hM
   refine owp_rdG (.string ((⟨#[27, 91]⟩ : ByteArray) ++ x11)) rfl (by kernel_rfl) (rd_cat (P := Tryd.prog) (h := h23) (x := (⟨#[27, 91]⟩ : ByteArray)) (y := x11) hc46 (by kernel_rfl)) ?_
   refine oS [(4, .string ((⟨#[27, 91]⟩ : ByteArray) ++ x11))] rfl ?_
   refine oE (cwp_ret (blockE_r (thenE_r ?_)))
   exact ret_ (.string ((⟨#[27, 91]⟩ : ByteArray) ++ x11)) (by kernel_rfl) ⟨_, rfl, hM⟩
 refine owp_at 21 (.bool false) (Eq.trans (b := .bool (!(x11.toList == (⟨#[]⟩ : ByteArray).toList))) (by kernel_rfl) (by rw [Bool.eq_false_iff.2 hc29])) ?_
 refine owp_at 22 (.bool false) (Eq.trans (b := .bool (!(x11.toList == (⟨#[]⟩ : ByteArray).toList))) (by kernel_rfl) (by rw [Bool.eq_false_iff.2 hc29])) ?_
 replace hM := ifF hc29 hM
 refine oS [(23, undef), (24, undef), (25, undef), (26, .bool false), (19, .bool false)] rfl ?_
 refine oE ?_
 refine cwp_cond (t := false) (by kernel_rfl) (fun hx_ => ?_) (fun hx_ => ?_)
 all_goals first | (cases hx_; done) | skip
 refine cR ?_
 refine oS [(32, .string x11), (33, .bool (!(x11.toList == (⟨#[]⟩ : ByteArray).toList))), (34, .bool (!(x11.toList == (⟨#[]⟩ : ByteArray).toList)))] rfl ?_
 refine owp_at 33 (.bool false) (Eq.trans (b := .bool (!(x11.toList == (⟨#[]⟩ : ByteArray).toList))) (by kernel_rfl) (by rw [Bool.eq_false_iff.2 hc29])) ?_
 refine owp_at 34 (.bool false) (Eq.trans (b := .bool (!(x11.toList == (⟨#[]⟩ : ByteArray).toList))) (by kernel_rfl) (by rw [Bool.eq_false_iff.2 hc29])) ?_
 refine oS [(35, undef), (36, undef), (37, undef), (38, undef), (39, undef), (40, undef), (41, .bool false), (31, .bool false)] rfl ?_
 refine oE ?_
 refine cwp_cond (t := false) (by kernel_rfl) (fun hx_ => ?_) (fun hx_ => ?_)
 all_goals first | (cases hx_; done) | skip
 refine cR ?_
 refine oS [(45, .string x11), (46, .bool (!(x11.toList == (⟨#[]⟩ : ByteArray).toList))), (44, .bool (!(x11.toList == (⟨#[]⟩ : ByteArray).toList)))] rfl ?_
 refine oE ?_
 refine cwp_condB (!(x11.toList == (⟨#[]⟩ : ByteArray).toList)) (by kernel_rfl) (fun hn_ => absurd hn_ hc29) (fun _ => ?_)
 refine cR ?_
 refine oS [(50, .pointer (some ⟨b4, 1, none⟩))] rfl ?_
 obtain ⟨x47, hc48, hM⟩ := hM
 refine owp_rdG (.int .i64 x47) rfl (by kernel_rfl) (Eq.trans (b := (cellH h23 ⟨b4, 1, none⟩).bind fun v49 => some (.value v49)) (by kernel_rfl) (bindE hc48 _)) ?_
 refine oS [(52, .bool (decide (0 < x47))), (49, .bool (decide (0 < x47)))] rfl ?_
 refine oE ?_
 refine cwp_condD (0 < x47) (by kernel_rfl) (fun hc50 => ?_) (fun hc50 => ?_)
 · replace hM := ifT hc50 hM
   refine cR ?_
   refine oS [(53, .string x24)] rfl ?_
   obtain ⟨hc51, hM⟩ := hM
   refine owp_rdG (.string ((⟨#[27, 91]⟩ : ByteArray) ++ x24)) rfl (by kernel_rfl) (rd_cat (P := Tryd.prog) (h := h23) (x := (⟨#[27, 91]⟩ : ByteArray)) (y := x24) hc51 (by kernel_rfl)) ?_
   obtain ⟨hc52, hM⟩ := hM
   refine owp_rdG (.string (((⟨#[27, 91]⟩ : ByteArray) ++ x24) ++ (⟨#[59]⟩ : ByteArray))) rfl (by kernel_rfl) (rd_cat (P := Tryd.prog) (h := h23) (x := ((⟨#[27, 91]⟩ : ByteArray) ++ x24)) (y := (⟨#[59]⟩ : ByteArray)) hc52 (by kernel_rfl)) ?_
   refine oS [(56, .string x16)] rfl ?_
   obtain ⟨hc53, hM⟩ := hM
   refine owp_rdG (.string ((((⟨#[27, 91]⟩ : ByteArray) ++ x24) ++ (⟨#[59]⟩ : ByteArray)) ++ x16)) rfl (by kernel_rfl) (rd_cat (P := Tryd.prog) (h := h23) (x := (((⟨#[27, 91]⟩ : ByteArray) ++ x24) ++ (⟨#[59]⟩ : ByteArray))) (y := x16) hc53 (by kernel_rfl)) ?_
   obtain ⟨hc54, hM⟩ := hM
   refine owp_rdG (.string (((((⟨#[27, 91]⟩ : ByteArray) ++ x24) ++ (⟨#[59]⟩ : ByteArray)) ++ x16) ++ (⟨#[126]⟩ : ByteArray))) rfl (by kernel_rfl) (rd_cat (P := Tryd.prog) (h := h23) (x := ((((⟨#[27, 91]⟩ : ByteArray) ++ x24) ++ (⟨#[59]⟩ : ByteArray)) ++ x16)) (y := (⟨#[126]⟩ : ByteArray)) hc54 (by kernel_rfl)) ?_
   refine oS [(4, .string (((((⟨#[27, 91]⟩ : ByteArray) ++ x24) ++ (⟨#[59]⟩ : ByteArray)) ++ x16) ++ (⟨#[126]⟩ : ByteArray)))] rfl ?_
   refine oE (cwp_ret (blockE_r (thenE_r ?_)))
   exact ret_ (.string (((((⟨#[27, 91]⟩ : ByteArray) ++ x24) ++ (⟨#[59]⟩ : ByteArray)) ++ x16) ++ (⟨#[126]⟩ : ByteArray))) (by kernel_rfl) ⟨_, rfl, hM⟩
 replace hM := ifF hc50 hM
 refine cwp_skip (blockE_n (thenE_n (cR ?_)))
 refine oS [(59, .string x24)] rfl ?_
 obtain ⟨hc55, hM⟩ := hM
 refine owp_rdG (.string ((⟨#[27, 91]⟩ : ByteArray) ++ x24)) rfl (by kernel_rfl) (rd_cat (P := Tryd.prog) (h := h23) (x := (⟨#[27, 91]⟩ : ByteArray)) (y := x24) hc55 (by kernel_rfl)) ?_
 obtain ⟨hc56, hM⟩ := hM
 refine owp_rdG (.string (((⟨#[27, 91]⟩ : ByteArray) ++ x24) ++ (⟨#[126]⟩ : ByteArray))) rfl (by kernel_rfl) (rd_cat (P := Tryd.prog) (h := h23) (x := ((⟨#[27, 91]⟩ : ByteArray) ++ x24)) (y := (⟨#[126]⟩ : ByteArray)) hc56 (by kernel_rfl)) ?_
 refine oS [(4, .string (((⟨#[27, 91]⟩ : ByteArray) ++ x24) ++ (⟨#[126]⟩ : ByteArray)))] rfl ?_
 refine oE (cwp_ret ?_)
 exact ret_ (.string (((⟨#[27, 91]⟩ : ByteArray) ++ x24) ++ (⟨#[126]⟩ : ByteArray))) (by kernel_rfl) ⟨_, rfl, hM⟩
/- mullion/mullionref21.Bytes -/
def ref21_Bytes_j0 (Kr : ByteArray → Heap → Prop) (y38 : Nat) (y39 : ByteArray) (h : Heap) : Prop :=
 ldI h .i64 ⟨y38, 1, none⟩ fun x40 =>
 if (Int.tmod (IntKind.wrap .i64 (Int.tdiv x40 4)) 2) = 0 then
  ldI h .i64 ⟨y38, 0, none⟩ fun x44 =>
  y39.size + (ref21_utf8 x44).size ≤ 9223372036854775807 ∧
  gap h fun h47 =>
  Kr (y39 ++ (ref21_utf8 x44)) h47
 else
 ldI h .i64 ⟨y38, 0, none⟩ fun x51 =>
 if x51 = 32 then
  y39.size + (⟨#[0]⟩ : ByteArray).size ≤ 9223372036854775807 ∧
  Kr (y39 ++ (⟨#[0]⟩ : ByteArray)) h
 else
 ldI h .i64 ⟨y38, 0, none⟩ fun x56 =>
 y39.size + (bytesOf [IntKind.wrap .u8 (Int.tmod x56 32)]).size ≤ 9223372036854775807 ∧
 gap h fun h60 =>
 Kr (y39 ++ (bytesOf [IntKind.wrap .u8 (Int.tmod x56 32)])) h60
theorem ref21_Bytes_j0_ok {Q : Exit → Env → Heap → Prop} (Kr : ByteArray → Heap → Prop) (hKr : ∀ (z64 : ByteArray) (b : Env) (h : Heap), Kr z64 h → Q .ret (upd b 4 (.string z64)) h) (y38 : Nat) (y39 : ByteArray) (b : Env) (h : Heap) (hM : ref21_Bytes_j0 Kr y38 y39 h) : cwp Tryd.prog (partC Tryd.f22 [1, 1, 1, 1, 1, 1]) 48 Q (upd (upd b 2 (.pointer (some ⟨y38, 0, none⟩))) 5 (.string y39)) h := by
  unfold ref21_Bytes_j0 at hM
  refine cwp_part rfl ?_
  refine cwp_seq (cwp_block (cR ?_))
  refine oS [(24, .pointer (some ⟨y38, 1, none⟩))] rfl ?_
  obtain ⟨x40, hc41, hM⟩ := hM
  refine owp_rdG (.int .i64 x40) rfl (by kernel_rfl) (Eq.trans (b := (cellH h ⟨y38, 1, none⟩).bind fun v42 => some (.value v42)) (by kernel_rfl) (bindE hc41 _)) ?_
  refine oS [(26, .int .i64 (IntKind.wrap .i64 (Int.tdiv x40 4))), (27, .int .i64 (Int.tmod (IntKind.wrap .i64 (Int.tdiv x40 4)) 2)), (28, .bool (decide ((Int.tmod (IntKind.wrap .i64 (Int.tdiv x40 4)) 2) = 0))), (23, .bool (decide ((Int.tmod (IntKind.wrap .i64 (Int.tdiv x40 4)) 2) = 0)))] rfl ?_
  refine oE ?_
  refine cwp_condD ((Int.tmod (IntKind.wrap .i64 (Int.tdiv x40 4)) 2) = 0) (by kernel_rfl) (fun hc43 => ?_) (fun hc43 => ?_)
  · replace hM := ifT hc43 hM
    refine cR ?_
    refine oS [(29, .string y39), (30, .pointer (some ⟨y38, 0, none⟩))] rfl ?_
    obtain ⟨x44, hc45, hM⟩ := hM
    refine owp_rdG (.int .i64 x44) rfl (by kernel_rfl) (Eq.trans (b := (cellH h ⟨y38, 0, none⟩).bind fun v46 => some (.value v46)) (by kernel_rfl) (bindE hc45 _)) ?_
    refine owp_hpG rfl (by kernel_rfl) (hpCallP 39 #[.int .i64 x44] (.string (ref21_utf8 x44)) (by kernel_rfl) (ref21_utf8_ok x44 _ h rfl) ?_)
    intro h47 hx48
    obtain ⟨hc49, hM⟩ := hM
    refine owp_rdG (.string (y39 ++ (ref21_utf8 x44))) rfl (by kernel_rfl) (rd_cat (P := Tryd.prog) (h := h47) (x := y39) (y := (ref21_utf8 x44)) hc49 (by kernel_rfl)) ?_
    refine oS [(4, .string (y39 ++ (ref21_utf8 x44)))] rfl ?_
    refine oE (cwp_ret (blockE_r (thenE_r ?_)))
    replace hM := hM _ hx48
    exact q_at (Q := Q .ret) 4 (.string (y39 ++ (ref21_utf8 x44))) (by kernel_rfl) (hKr (y39 ++ (ref21_utf8 x44)) _ _ hM)
  replace hM := ifF hc43 hM
  refine cR ?_
  refine oS [(35, .pointer (some ⟨y38, 0, none⟩))] rfl ?_
  obtain ⟨x51, hc52, hM⟩ := hM
  refine owp_rdG (.int .i64 x51) rfl (by kernel_rfl) (Eq.trans (b := (cellH h ⟨y38, 0, none⟩).bind fun v53 => some (.value v53)) (by kernel_rfl) (bindE hc52 _)) ?_
  refine oS [(37, .bool (decide (x51 = 32))), (34, .bool (decide (x51 = 32)))] rfl ?_
  refine oE ?_
  refine cwp_condD (x51 = 32) (by kernel_rfl) (fun hc54 => ?_) (fun hc54 => ?_)
  · replace hM := ifT hc54 hM
    refine cR ?_
    refine oS [(38, .string y39)] rfl ?_
    obtain ⟨hc55, hM⟩ := hM
    refine owp_rdG (.string (y39 ++ (⟨#[0]⟩ : ByteArray))) rfl (by kernel_rfl) (rd_cat (P := Tryd.prog) (h := h) (x := y39) (y := (⟨#[0]⟩ : ByteArray)) hc55 (by kernel_rfl)) ?_
    refine oS [(4, .string (y39 ++ (⟨#[0]⟩ : ByteArray)))] rfl ?_
    refine oE (cwp_ret (blockE_r (thenE_r ?_)))
    exact q_at (Q := Q .ret) 4 (.string (y39 ++ (⟨#[0]⟩ : ByteArray))) (by kernel_rfl) (hKr (y39 ++ (⟨#[0]⟩ : ByteArray)) _ _ hM)
  replace hM := ifF hc54 hM
  refine cwp_skip (blockE_n (thenE_n (cR ?_)))
  refine oS [(40, .string y39), (41, .pointer (some ⟨y38, 0, none⟩))] rfl ?_
  obtain ⟨x56, hc57, hM⟩ := hM
  refine owp_rdG (.int .i64 x56) rfl (by kernel_rfl) (Eq.trans (b := (cellH h ⟨y38, 0, none⟩).bind fun v58 => some (.value v58)) (by kernel_rfl) (bindE hc57 _)) ?_
  refine oS [(43, .int .i64 (Int.tmod x56 32)), (44, .int .u8 (IntKind.wrap .u8 (Int.tmod x56 32)))] rfl ?_
  refine owp_hpG rfl (by kernel_rfl) (hpNewS #[.int .u8 (IntKind.wrap .u8 (Int.tmod x56 32))] 5 1 (fun _ => by kernel_rfl) ?_)
  intro b59 h60 hN61
  refine owp_rdG (.string (bytesOf [IntKind.wrap .u8 (Int.tmod x56 32)])) rfl (by kernel_rfl) (rd_bytes (P := Tryd.prog) (h := h60) (c := 1) [IntKind.wrap .u8 (Int.tmod x56 32)] ⟨Blk.cell (New.blk hN61) 0 (by kernel_rfl), trivial⟩ (by kernel_rfl)) ?_
  obtain ⟨hc62, hM⟩ := hM
  refine owp_rdG (.string (y39 ++ (bytesOf [IntKind.wrap .u8 (Int.tmod x56 32)]))) rfl (by kernel_rfl) (rd_cat (P := Tryd.prog) (h := h60) (x := y39) (y := (bytesOf [IntKind.wrap .u8 (Int.tmod x56 32)])) hc62 (by kernel_rfl)) ?_
  refine oS [(4, .string (y39 ++ (bytesOf [IntKind.wrap .u8 (Int.tmod x56 32)])))] rfl ?_
  refine oE (cwp_ret ?_)
  replace hM := hM _ (New.ext hN61)
  exact q_at (Q := Q .ret) 4 (.string (y39 ++ (bytesOf [IntKind.wrap .u8 (Int.tmod x56 32)]))) (by kernel_rfl) (hKr (y39 ++ (bytesOf [IntKind.wrap .u8 (Int.tmod x56 32)])) _ _ hM)
def ref21_Bytes (a1 : Int) (a2 : Int) (a3 : Bool) (K : ByteArray → Heap → Prop) (h : Heap) : Prop :=
 newB h #[.int .i64 a1, .int .i64 a2] 36 fun b4 h5 =>
 ldI h5 .i64 ⟨b4, 0, none⟩ fun x7 =>
 ldI h5 .i64 ⟨b4, 1, none⟩ fun x9 =>
 if (!(ref21_Valid x7 x9)) = true then
  gap h5 fun h13 =>
  K (⟨#[]⟩ : ByteArray) h13
 else
 gap h5 fun h13 =>
 ldI h13 .i64 ⟨b4, 0, none⟩ fun x16 =>
 if x16 = 16777239 then
  K (⟨#[27, 91, 90]⟩ : ByteArray) h13
 else
 ldI h13 .i64 ⟨b4, 0, none⟩ fun x20 =>
 if (ref21_special x20) = true then
  gap h13 fun h23 =>
  ldI h23 .i64 ⟨b4, 0, none⟩ fun x26 =>
  ldI h23 .i64 ⟨b4, 1, none⟩ fun x28 =>
  ref21_sequence x26 x28 a3 (fun x33 h32 =>
    K x33 h32) h23
 else
 gap h13 fun h23 =>
 ldI h23 .i64 ⟨b4, 1, none⟩ fun x34 =>
 if (Int.tmod (IntKind.wrap .i64 (Int.tdiv x34 2)) 2) = 1 then
  ref21_Bytes_j0
   (fun z65 h66 =>
       K z65 h66) b4 (⟨#[27]⟩ : ByteArray) h23
 else
 ref21_Bytes_j0
  (fun z69 h70 =>
      K z69 h70) b4 (⟨#[]⟩ : ByteArray) h23
theorem ref21_Bytes_ok (a1 : Int) (a2 : Int) (a3 : Bool) (K : ByteArray → Heap → Prop) (h : Heap) (hM : ref21_Bytes a1 a2 a3 K h) : CallsH Tryd.prog 22 #[.agg #[.int .i64 a1, .int .i64 a2], .bool a3] (fun v h' => ∃ (r73 : ByteArray), v = .string r73 ∧ K r73 h') h := by
 unfold ref21_Bytes at hM
 refine callsH_intro (n := 48) Tryd.func22 rfl rfl (by kernel_rfl) ?_
 refine cR ?_
 refine owp_hpG rfl (by kernel_rfl) (hpNew #[.int .i64 a1, .int .i64 a2] 36 (fun _ => by kernel_rfl) ?_)
 intro b4 h5 hN6
 replace hM := newB_of hN6 hM
 refine oS [(4, .string (⟨#[]⟩ : ByteArray))] rfl ?_
 refine oE (cwp_seq (cR ?_))
 obtain ⟨x7, hc8, hM⟩ := hM
 obtain ⟨x9, hc10, hM⟩ := hM
 refine owp_rdG (.agg #[.int .i64 x7, .int .i64 x9]) rfl (by kernel_rfl) (Eq.trans (b := (cellH h5 ⟨b4, 0, none⟩).bind fun v11 => (cellH h5 ⟨b4, 1, none⟩).bind fun v12 => some (.value (.agg #[v11, v12]))) (by kernel_rfl) ((bindE hc8 _).trans (bindE hc10 _))) ?_
 refine owp_hpG rfl (by kernel_rfl) (hpCallP 18 #[.agg #[.int .i64 x7, .int .i64 x9]] (.bool (ref21_Valid x7 x9)) (by kernel_rfl) (ref21_Valid_ok x7 x9 _ h5 rfl) ?_)
 intro h13 hx14
 refine oS [(8, .bool (!(ref21_Valid x7 x9)))] rfl ?_
 refine oE ?_
 refine cwp_condB (!(ref21_Valid x7 x9)) (by kernel_rfl) (fun hc15 => ?_) (fun hc15 => ?_)
 · replace hM := ifT hc15 hM
   refine cR ?_
   refine oS [(4, .string (⟨#[]⟩ : ByteArray))] rfl ?_
   refine oE (cwp_ret (thenE_r ?_))
   replace hM := hM _ hx14
   exact ret_ (.string (⟨#[]⟩ : ByteArray)) (by kernel_rfl) ⟨_, rfl, hM⟩
 replace hM := ifF hc15 hM
 refine cwp_skip (thenE_n (cwp_seq (cR ?_)))
 refine oS [(9, .pointer (some ⟨b4, 0, none⟩))] rfl ?_
 replace hM := hM _ hx14
 obtain ⟨x16, hc17, hM⟩ := hM
 refine owp_rdG (.int .i64 x16) rfl (by kernel_rfl) (Eq.trans (b := (cellH h13 ⟨b4, 0, none⟩).bind fun v18 => some (.value v18)) (by kernel_rfl) (bindE hc17 _)) ?_
 refine oS [(11, .bool (decide (x16 = 16777239)))] rfl ?_
 refine oE ?_
 refine cwp_condD (x16 = 16777239) (by kernel_rfl) (fun hc19 => ?_) (fun hc19 => ?_)
 · replace hM := ifT hc19 hM
   refine cR ?_
   refine oS [(4, .string (⟨#[27, 91, 90]⟩ : ByteArray))] rfl ?_
   refine oE (cwp_ret (thenE_r ?_))
   exact ret_ (.string (⟨#[27, 91, 90]⟩ : ByteArray)) (by kernel_rfl) ⟨_, rfl, hM⟩
 replace hM := ifF hc19 hM
 refine cwp_skip (thenE_n (cwp_seq (cR ?_)))
 refine oS [(12, .pointer (some ⟨b4, 0, none⟩))] rfl ?_
 obtain ⟨x20, hc21, hM⟩ := hM
 refine owp_rdG (.int .i64 x20) rfl (by kernel_rfl) (Eq.trans (b := (cellH h13 ⟨b4, 0, none⟩).bind fun v22 => some (.value v22)) (by kernel_rfl) (bindE hc21 _)) ?_
 refine owp_hpG rfl (by kernel_rfl) (hpCallP 33 #[.int .i64 x20] (.bool (ref21_special x20)) (by kernel_rfl) (ref21_special_ok x20 _ h13 rfl) ?_)
 intro h23 hx24
 refine oE ?_
 refine cwp_condB (ref21_special x20) (by kernel_rfl) (fun hc25 => ?_) (fun hc25 => ?_)
 · replace hM := ifT hc25 hM
   refine cR ?_
   replace hM := hM _ hx24
   obtain ⟨x26, hc27, hM⟩ := hM
   obtain ⟨x28, hc29, hM⟩ := hM
   refine owp_rdG (.agg #[.int .i64 x26, .int .i64 x28]) rfl (by kernel_rfl) (Eq.trans (b := (cellH h23 ⟨b4, 0, none⟩).bind fun v30 => (cellH h23 ⟨b4, 1, none⟩).bind fun v31 => some (.value (.agg #[v30, v31]))) (by kernel_rfl) ((bindE hc27 _).trans (bindE hc29 _))) ?_
   refine oS [(16, .bool a3)] rfl ?_
   refine owp_hpG rfl (by kernel_rfl) (hpCallE 41 #[.agg #[.int .i64 x26, .int .i64 x28], .bool a3] (by kernel_rfl) (ref21_sequence_ok x26 x28 a3 _ h23 hM) ?_)
   rintro _ h32 ⟨x33, rfl, hM⟩
   refine oS [(4, .string x33)] rfl ?_
   refine oE (cwp_ret (thenE_r ?_))
   exact ret_ (.string x33) (by kernel_rfl) ⟨_, rfl, hM⟩
 replace hM := ifF hc25 hM
 refine cwp_skip (thenE_n (cR ?_))
 refine oS [(5, .string (⟨#[]⟩ : ByteArray))] rfl ?_
 refine oE (cwp_seq (cR ?_))
 refine oS [(18, .pointer (some ⟨b4, 1, none⟩))] rfl ?_
 replace hM := hM _ hx24
 obtain ⟨x34, hc35, hM⟩ := hM
 refine owp_rdG (.int .i64 x34) rfl (by kernel_rfl) (Eq.trans (b := (cellH h23 ⟨b4, 1, none⟩).bind fun v36 => some (.value v36)) (by kernel_rfl) (bindE hc35 _)) ?_
 refine oS [(20, .int .i64 (IntKind.wrap .i64 (Int.tdiv x34 2))), (21, .int .i64 (Int.tmod (IntKind.wrap .i64 (Int.tdiv x34 2)) 2)), (22, .bool (decide ((Int.tmod (IntKind.wrap .i64 (Int.tdiv x34 2)) 2) = 1)))] rfl ?_
 refine oE ?_
 refine cwp_condD ((Int.tmod (IntKind.wrap .i64 (Int.tdiv x34 2)) 2) = 1) (by kernel_rfl) (fun hc37 => ?_) (fun hc37 => ?_)
 · replace hM := ifT hc37 hM
   refine cwp_region ?_
   refine oS [(5, .string (⟨#[27]⟩ : ByteArray))] rfl ?_
   refine oE ?_
   refine cwp_of_part (fn := Tryd.f22) (p := [1, 1, 1, 1, 1, 1]) (by kernel_rfl) (cwp_at 2 (.pointer (some ⟨b4, 0, none⟩)) (by kernel_rfl) (cwp_at 5 (.string (⟨#[27]⟩ : ByteArray)) (by kernel_rfl) (ref21_Bytes_j0_ok _ ?_ b4 (⟨#[27]⟩ : ByteArray) _ _ hM)))
   · intro z65 b67 h66 hM
     exact ret_ (.string z65) (by kernel_rfl) ⟨_, rfl, hM⟩
 replace hM := ifF hc37 hM
 refine cwp_skip (thenE_n ?_)
 refine cwp_of_part (fn := Tryd.f22) (p := [1, 1, 1, 1, 1, 1]) (by kernel_rfl) (cwp_at 2 (.pointer (some ⟨b4, 0, none⟩)) (by kernel_rfl) (cwp_at 5 (.string (⟨#[]⟩ : ByteArray)) (by kernel_rfl) (ref21_Bytes_j0_ok _ ?_ b4 (⟨#[]⟩ : ByteArray) _ _ hM)))
 · intro z69 b71 h70 hM
   exact ret_ (.string z69) (by kernel_rfl) ⟨_, rfl, hM⟩
/- mullion/mullionref21.all -/
def ref21_all_l1 (K2 : Option Addr → Nat → Nat → Int → Heap → Prop) : Nat → Option Addr → Nat → Nat → Int → Int → Heap → Prop
  | 0, _, _, _, _, _, _ => False
  | k + 1, y4, y4n, y4c, y5, y6, h =>
  if y6 < 128 then
   gap h fun h9 =>
   appH h9 36 16 [.int .i64 0, .int .i64 0] y4 y4n y4c [.int .i64 y6, .int .i64 y5] 1 fun s12 s12c h11 =>
   ref21_all_l1 K2 k s12 (y4n + 1) s12c y5 (IntKind.wrap .i64 (y6 + 1)) h11
  else
  K2 y4 y4n y4c y5 h
theorem ref21_all_l1_ok {Q : Exit → Env → Heap → Prop} (K2 : Option Addr → Nat → Nat → Int → Heap → Prop) (hK2 : ∀ (z17 : Option Addr) (z17n : Nat) (z17c : Nat) (z18 : Int) (b : Env) (h : Heap), K2 z17 z17n z17c z18 h → Q (.exit 2) (upd (upd b 1 (.slice z17 z17n z17c)) 2 (.int .i64 z18)) h) : ∀ (k : Nat) (y4 : Option Addr) (y4n : Nat) (y4c : Nat) (y5 : Int) (y6 : Int) (b : Env) (h : Heap) (hM : ref21_all_l1 K2 k y4 y4n y4c y5 y6 h), lwp Tryd.prog (partC Tryd.f44 [1, 1, 0, 1, 0, 0, 1, 0, 0, 0, 1, 0, 0]) 30 Q k (upd (upd (upd b 1 (.slice y4 y4n y4c)) 2 (.int .i64 y5)) 3 (.int .i64 y6)) h := by
  intro k
  induction k with
  | zero => intro y4 y4n y4c y5 y6 b h hM; exact (show False from hM).elim
  | succ k ih =>
    intro y4 y4n y4c y5 y6 b h hM
    unfold ref21_all_l1 at hM
    refine lwp_succ (cwp_part rfl ?_)
    refine cwp_seq (cR ?_)
    refine oS [(9, .int .i64 y6), (10, .bool (decide (y6 < 128)))] rfl ?_
    refine oE ?_
    refine cwp_condD (y6 < 128) (by kernel_rfl) (fun hc7 => ?_) (fun hc7 => ?_)
    · replace hM := ifT hc7 hM
      refine cwp_skip (thenE_n (cwp_seq (cwp_block (cwp_region ?_))))
      refine oS [(13, .slice y4 y4n y4c), (14, .int .i64 y6), (15, .int .i64 y5), (16, .agg #[.int .i64 y6, .int .i64 y5])] rfl ?_
      refine owp_hpG rfl (by kernel_rfl) (hpNewS #[.int .i64 y6, .int .i64 y5] 36 1 (fun _ => by kernel_rfl) ?_)
      intro b8 h9 hN10
      replace hM := hM _ (New.ext hN10)
      refine owp_hpG rfl (by kernel_rfl) (hpApp (t := 27) (ty := 27) (et := 36) (zv := .agg #[.int .i64 0, .int .i64 0]) (sz := 2) (by_ := 16) (base := y4) (n' := y4n) (c := y4c) (xb := (some ⟨b8, 0, none⟩)) (m := 1) (xc := 1) (new := [.int .i64 y6, .int .i64 y5]) (fun _ => by kernel_rfl) (by kernel_rfl) (by kernel_rfl) [.int .i64 0, .int .i64 0] rfl rfl (by decide) rfl rfl ⟨Blk.cell (New.blk hN10) 0 (by kernel_rfl), Blk.cell (New.blk hN10) 1 (by kernel_rfl), trivial⟩ hM ?_)
      intro s12 s12c h11 hM
      refine oS [(1, .slice s12 (y4n + 1) s12c)] rfl ?_
      refine owp_nil (blockE_n (thenE_n (cwp_region ?_)))
      refine oS [(11, .int .i64 y6), (12, .int .i64 (IntKind.wrap .i64 (y6 + 1))), (3, .int .i64 (IntKind.wrap .i64 (y6 + 1)))] rfl ?_
      refine owp_nil ?_
      exact lwp_at 1 (.slice s12 (y4n + 1) s12c) (by kernel_rfl) (lwp_at 2 (.int .i64 y5) (by kernel_rfl) (lwp_at 3 (.int .i64 (IntKind.wrap .i64 (y6 + 1))) (by kernel_rfl) (ih s12 (y4n + 1) s12c y5 (IntKind.wrap .i64 (y6 + 1)) _ _ hM)))
    replace hM := ifF hc7 hM
    refine cwp_exit (thenE_x ?_)
    exact q_at (Q := Q (.exit 2)) 1 (.slice y4 y4n y4c) (by kernel_rfl) (q_at (Q := Q (.exit 2)) 2 (.int .i64 y5) (by kernel_rfl) (hK2 y4 y4n y4c y5 _ _ hM))
def ref21_all_l2 (K4 : Option Addr → Nat → Nat → Int → Heap → Prop) : Nat → Option Addr → Nat → Nat → Int → Int → Heap → Prop
  | 0, _, _, _, _, _, _ => False
  | k + 1, y22, y22n, y22c, y23, y24, h =>
  if y24 ≤ 16777239 then
   gap h fun h27 =>
   appH h27 36 16 [.int .i64 0, .int .i64 0] y22 y22n y22c [.int .i64 y24, .int .i64 y23] 1 fun s30 s30c h29 =>
   ref21_all_l2 K4 k s30 (y22n + 1) s30c y23 (IntKind.wrap .i64 (y24 + 1)) h29
  else
  K4 y22 y22n y22c y23 h
theorem ref21_all_l2_ok {Q : Exit → Env → Heap → Prop} (K4 : Option Addr → Nat → Nat → Int → Heap → Prop) (hK4 : ∀ (z35 : Option Addr) (z35n : Nat) (z35c : Nat) (z36 : Int) (b : Env) (h : Heap), K4 z35 z35n z35c z36 h → Q (.exit 4) (upd (upd b 1 (.slice z35 z35n z35c)) 2 (.int .i64 z36)) h) : ∀ (k : Nat) (y22 : Option Addr) (y22n : Nat) (y22c : Nat) (y23 : Int) (y24 : Int) (b : Env) (h : Heap) (hM : ref21_all_l2 K4 k y22 y22n y22c y23 y24 h), lwp Tryd.prog (partC Tryd.f44 [1, 1, 0, 1, 0, 0, 1, 0, 0, 1, 1, 0, 0]) 30 Q k (upd (upd (upd b 1 (.slice y22 y22n y22c)) 2 (.int .i64 y23)) 4 (.int .i64 y24)) h := by
  intro k
  induction k with
  | zero => intro y22 y22n y22c y23 y24 b h hM; exact (show False from hM).elim
  | succ k ih =>
    intro y22 y22n y22c y23 y24 b h hM
    unfold ref21_all_l2 at hM
    refine lwp_succ (cwp_part rfl ?_)
    refine cwp_seq (cR ?_)
    refine oS [(19, .int .i64 y24), (20, .bool (decide (y24 ≤ 16777239)))] rfl ?_
    refine oE ?_
    refine cwp_condD (y24 ≤ 16777239) (by kernel_rfl) (fun hc25 => ?_) (fun hc25 => ?_)
    · replace hM := ifT hc25 hM
      refine cwp_skip (thenE_n (cwp_seq (cwp_block (cwp_region ?_))))
      refine oS [(23, .slice y22 y22n y22c), (24, .int .i64 y24), (25, .int .i64 y23), (26, .agg #[.int .i64 y24, .int .i64 y23])] rfl ?_
      refine owp_hpG rfl (by kernel_rfl) (hpNewS #[.int .i64 y24, .int .i64 y23] 36 1 (fun _ => by kernel_rfl) ?_)
      intro b26 h27 hN28
      replace hM := hM _ (New.ext hN28)
      refine owp_hpG rfl (by kernel_rfl) (hpApp (t := 27) (ty := 27) (et := 36) (zv := .agg #[.int .i64 0, .int .i64 0]) (sz := 2) (by_ := 16) (base := y22) (n' := y22n) (c := y22c) (xb := (some ⟨b26, 0, none⟩)) (m := 1) (xc := 1) (new := [.int .i64 y24, .int .i64 y23]) (fun _ => by kernel_rfl) (by kernel_rfl) (by kernel_rfl) [.int .i64 0, .int .i64 0] rfl rfl (by decide) rfl rfl ⟨Blk.cell (New.blk hN28) 0 (by kernel_rfl), Blk.cell (New.blk hN28) 1 (by kernel_rfl), trivial⟩ hM ?_)
      intro s30 s30c h29 hM
      refine oS [(1, .slice s30 (y22n + 1) s30c)] rfl ?_
      refine owp_nil (blockE_n (thenE_n (cwp_region ?_)))
      refine oS [(21, .int .i64 y24), (22, .int .i64 (IntKind.wrap .i64 (y24 + 1))), (4, .int .i64 (IntKind.wrap .i64 (y24 + 1)))] rfl ?_
      refine owp_nil ?_
      exact lwp_at 1 (.slice s30 (y22n + 1) s30c) (by kernel_rfl) (lwp_at 2 (.int .i64 y23) (by kernel_rfl) (lwp_at 4 (.int .i64 (IntKind.wrap .i64 (y24 + 1))) (by kernel_rfl) (ih s30 (y22n + 1) s30c y23 (IntKind.wrap .i64 (y24 + 1)) _ _ hM)))
    replace hM := ifF hc25 hM
    refine cwp_exit (thenE_x ?_)
    exact q_at (Q := Q (.exit 4)) 1 (.slice y22 y22n y22c) (by kernel_rfl) (q_at (Q := Q (.exit 4)) 2 (.int .i64 y23) (by kernel_rfl) (hK4 y22 y22n y22c y23 _ _ hM))
def ref21_all_l0 (K0 : Option Addr → Nat → Nat → Heap → Prop) : Nat → Option Addr → Nat → Nat → Int → Heap → Prop
  | 0, _, _, _, _, _ => False
  | k + 1, y1, y1n, y1c, y2, h =>
  if y2 ≤ 7 then
   ∃ k43, ref21_all_l1
    (fun z19 z19n z19c z20 h21 =>
      ∃ k41, ref21_all_l2
       (fun z37 z37n z37c z38 h39 =>
             ref21_all_l0 K0 k z37 z37n z37c (IntKind.wrap .i64 (z38 + 1)) h39) k41 z19 z19n z19c z20 16777217 h21) k43 y1 y1n y1c y2 0 h
  else
  K0 y1 y1n y1c h
theorem ref21_all_l0_ok {Q : Exit → Env → Heap → Prop} (K0 : Option Addr → Nat → Nat → Heap → Prop) (hK0 : ∀ (z46 : Option Addr) (z46n : Nat) (z46c : Nat) (b : Env) (h : Heap), K0 z46 z46n z46c h → Q (.exit 0) (upd b 1 (.slice z46 z46n z46c)) h) : ∀ (k : Nat) (y1 : Option Addr) (y1n : Nat) (y1c : Nat) (y2 : Int) (b : Env) (h : Heap) (hM : ref21_all_l0 K0 k y1 y1n y1c y2 h), lwp Tryd.prog (partC Tryd.f44 [1, 1, 0, 1, 0, 0]) 30 Q k (upd (upd b 1 (.slice y1 y1n y1c)) 2 (.int .i64 y2)) h := by
  intro k
  induction k with
  | zero => intro y1 y1n y1c y2 b h hM; exact (show False from hM).elim
  | succ k ih =>
    intro y1 y1n y1c y2 b h hM
    unfold ref21_all_l0 at hM
    refine lwp_succ (cwp_part rfl ?_)
    refine cwp_seq (cR ?_)
    refine oS [(5, .int .i64 y2), (6, .bool (decide (y2 ≤ 7)))] rfl ?_
    refine oE ?_
    refine cwp_condD (y2 ≤ 7) (by kernel_rfl) (fun hc3 => ?_) (fun hc3 => ?_)
    · replace hM := ifT hc3 hM
      refine cwp_skip (thenE_n (cwp_seq (cwp_block (cwp_seq (cR ?_)))))
      refine oS [(3, .int .i64 0)] rfl ?_
      refine oE (cwp_block ?_)
      obtain ⟨k_, hM⟩ := hM
      refine cwp_loop k_ (lwp_of_part (fn := Tryd.f44) (p := [1, 1, 0, 1, 0, 0, 1, 0, 0, 0, 1, 0, 0]) (by kernel_rfl) (lwp_at 1 (.slice y1 y1n y1c) (by kernel_rfl) (lwp_at 2 (.int .i64 y2) (by kernel_rfl) (lwp_at 3 (.int .i64 0) (by kernel_rfl) (ref21_all_l1_ok _ ?_ k_ y1 y1n y1c y2 0 _ _ hM)))))
      · intro z19 z19n z19c z20 b42 h21 hM
        refine blockE_h (thenE_n (cR ?_))
        refine oS [(4, .int .i64 16777217)] rfl ?_
        refine oE (cwp_block ?_)
        obtain ⟨k_, hM⟩ := hM
        refine cwp_loop k_ (lwp_of_part (fn := Tryd.f44) (p := [1, 1, 0, 1, 0, 0, 1, 0, 0, 1, 1, 0, 0]) (by kernel_rfl) (lwp_at 1 (.slice z19 z19n z19c) (by kernel_rfl) (lwp_at 2 (.int .i64 z20) (by kernel_rfl) (lwp_at 4 (.int .i64 16777217) (by kernel_rfl) (ref21_all_l2_ok _ ?_ k_ z19 z19n z19c z20 16777217 _ _ hM)))))
        · intro z37 z37n z37c z38 b40 h39 hM
          refine blockE_h (blockE_n (thenE_n (cwp_region ?_)))
          refine oS [(7, .int .i64 z38), (8, .int .i64 (IntKind.wrap .i64 (z38 + 1))), (2, .int .i64 (IntKind.wrap .i64 (z38 + 1)))] rfl ?_
          refine owp_nil ?_
          exact lwp_at 1 (.slice z37 z37n z37c) (by kernel_rfl) (lwp_at 2 (.int .i64 (IntKind.wrap .i64 (z38 + 1))) (by kernel_rfl) (ih z37 z37n z37c (IntKind.wrap .i64 (z38 + 1)) _ _ hM))
    replace hM := ifF hc3 hM
    refine cwp_exit (thenE_x ?_)
    exact q_at (Q := Q (.exit 0)) 1 (.slice y1 y1n y1c) (by kernel_rfl) (hK0 y1 y1n y1c _ _ hM)
def ref21_all  (K : Option Addr → Nat → Nat → Heap → Prop) (h : Heap) : Prop :=
 ∃ k50, ref21_all_l0
  (fun z47 z47n z47c h48 =>
      K z47 z47n z47c h48) k50 none 0 0 0 h
theorem ref21_all_ok  (K : Option Addr → Nat → Nat → Heap → Prop) (h : Heap) (hM : ref21_all  K h) : CallsH Tryd.prog 44 #[] (fun v h' => ∃ (r51 : Option Addr) (r51n : Nat) (r51c : Nat), v = .slice r51 r51n r51c ∧ K r51 r51n r51c h') h := by
 unfold ref21_all at hM
 refine callsH_intro (n := 30) Tryd.func44 rfl rfl (by kernel_rfl) ?_
 refine cR ?_
 refine oS [(0, .slice none 0 0)] rfl ?_
 refine oE (cR ?_)
 refine oS [(1, .slice none 0 0)] rfl ?_
 refine oE (cwp_seq (cR ?_))
 refine oS [(2, .int .i64 0)] rfl ?_
 refine oE (cwp_block ?_)
 obtain ⟨k_, hM⟩ := hM
 refine cwp_loop k_ (lwp_of_part (fn := Tryd.f44) (p := [1, 1, 0, 1, 0, 0]) (by kernel_rfl) (lwp_at 1 (.slice none 0 0) (by kernel_rfl) (lwp_at 2 (.int .i64 0) (by kernel_rfl) (ref21_all_l0_ok _ ?_ k_ none 0 0 0 _ _ hM))))
 · intro z47 z47n z47c b49 h48 hM
   refine blockE_h (thenE_n (cR ?_))
   refine oS [(29, .slice z47 z47n z47c), (0, .slice z47 z47n z47c)] rfl ?_
   refine oE (cwp_ret ?_)
   exact ret_ (.slice z47 z47n z47c) (by kernel_rfl) ⟨_, _, _, rfl, hM⟩
/- mullion/mullionref21.control -/
def ref21_control_l0 (K0 : ByteArray → Nat → Int → Heap → Prop) : Nat → ByteArray → Nat → Int → Heap → Prop
  | 0, _, _, _, _ => False
  | k + 1, y5, y6, y7, h =>
  ((decide (y7 < (y5.size : Int))) = true → 0 ≤ y7) ∧
  ((decide (y7 < (y5.size : Int))) = true → y7 < (y5.size : Int)) ∧
  (((decide (y7 < (y5.size : Int))) && (decide (32 ≤ (byteAt y5 y7)))) = true → 0 ≤ y7) ∧
  (((decide (y7 < (y5.size : Int))) && (decide (32 ≤ (byteAt y5 y7)))) = true → y7 < (y5.size : Int)) ∧
  if ((((decide (y7 < (y5.size : Int))) && (decide (32 ≤ (byteAt y5 y7)))) && (decide ((byteAt y5 y7) ≤ 63))) && (decide (y7 < 256))) = true then
   ref21_control_l0 K0 k y5 y6 (IntKind.wrap .i64 (y7 + 1)) h
  else
  K0 y5 y6 y7 h
theorem ref21_control_l0_ok {Q : Exit → Env → Heap → Prop} (K0 : ByteArray → Nat → Int → Heap → Prop) (hK0 : ∀ (z35 : ByteArray) (z36 : Nat) (z37 : Int) (b : Env) (h : Heap), K0 z35 z36 z37 h → Q (.exit 0) (upd (upd (upd b 0 (.string z35)) 2 (.pointer (some ⟨z36, 0, none⟩))) 4 (.int .i64 z37)) h) : ∀ (k : Nat) (y5 : ByteArray) (y6 : Nat) (y7 : Int) (b : Env) (h : Heap) (hM : ref21_control_l0 K0 k y5 y6 y7 h), lwp Tryd.prog (partC Tryd.f50 [1, 1, 0, 0, 0]) 117 Q k (upd (upd (upd b 0 (.string y5)) 2 (.pointer (some ⟨y6, 0, none⟩))) 4 (.int .i64 y7)) h := by
  intro k
  induction k with
  | zero => intro y5 y6 y7 b h hM; exact (show False from hM).elim
  | succ k ih =>
    intro y5 y6 y7 b h hM
    unfold ref21_control_l0 at hM
    refine lwp_succ (cwp_part rfl ?_)
    refine cwp_seq (cR ?_)
    refine oS [(11, .int .i64 y7), (12, .string y5), (13, .int .i64 (y5.size : Int)), (14, .bool (decide (y7 < (y5.size : Int)))), (15, .bool (decide (y7 < (y5.size : Int))))] rfl ?_
    obtain ⟨hc12, hM⟩ := hM
    obtain ⟨hc13, hM⟩ := hM
    refine oB (decide (y7 < (y5.size : Int))) 5 [14, 15] (fun b_ => [(16, iteV b_ (.string y5 : Value) undef), (17, iteV b_ (.int .i64 y7 : Value) undef), (18, iteV b_ (.int .u8 (byteAt y5 y7) : Value) undef), (19, iteV b_ (.bool (decide (32 ≤ (byteAt y5 y7))) : Value) undef), (20, .bool (b_ && (decide (32 ≤ (byteAt y5 y7)))))]) rfl (fun hb10 hq11 => have hc8 := hc12 hb10; have hc9 := hc13 hb10; oS [(16, .string y5), (17, .int .i64 y7)] rfl (owp_rdG (.int .u8 (byteAt y5 y7)) rfl (by kernel_rfl) (rd_ixStr (P := Tryd.prog) (h := h) (t := 9) (s := y5) (k := .i64) (i := y7) (by kernel_rfl) hc8 hc9 (by kernel_rfl)) (oS [(19, .bool (decide (32 ≤ (byteAt y5 y7)))), (20, .bool (decide (32 ≤ (byteAt y5 y7))))] rfl (hq11)))) (fun hb14 hq15 => oS [(16, undef), (17, undef), (18, undef), (19, undef), (20, .bool false)] rfl (hq15)) ?_
    refine oS [(21, .bool ((decide (y7 < (y5.size : Int))) && (decide (32 ≤ (byteAt y5 y7)))))] rfl ?_
    obtain ⟨hc20, hM⟩ := hM
    obtain ⟨hc21, hM⟩ := hM
    refine oB ((decide (y7 < (y5.size : Int))) && (decide (32 ≤ (byteAt y5 y7)))) 5 [20, 21] (fun b_ => [(22, iteV b_ (.string y5 : Value) undef), (23, iteV b_ (.int .i64 y7 : Value) undef), (24, iteV b_ (.int .u8 (byteAt y5 y7) : Value) undef), (25, iteV b_ (.bool (decide ((byteAt y5 y7) ≤ 63)) : Value) undef), (26, .bool (b_ && (decide ((byteAt y5 y7) ≤ 63))))]) rfl (fun hb18 hq19 => have hc16 := hc20 hb18; have hc17 := hc21 hb18; oS [(22, .string y5), (23, .int .i64 y7)] rfl (owp_rdG (.int .u8 (byteAt y5 y7)) rfl (by kernel_rfl) (rd_ixStr (P := Tryd.prog) (h := h) (t := 9) (s := y5) (k := .i64) (i := y7) (by kernel_rfl) hc16 hc17 (by kernel_rfl)) (oS [(25, .bool (decide ((byteAt y5 y7) ≤ 63))), (26, .bool (decide ((byteAt y5 y7) ≤ 63)))] rfl (hq19)))) (fun hb22 hq23 => oS [(22, undef), (23, undef), (24, undef), (25, undef), (26, .bool false)] rfl (hq23)) ?_
    refine oS [(27, .bool (((decide (y7 < (y5.size : Int))) && (decide (32 ≤ (byteAt y5 y7)))) && (decide ((byteAt y5 y7) ≤ 63))))] rfl ?_
    refine oB (((decide (y7 < (y5.size : Int))) && (decide (32 ≤ (byteAt y5 y7)))) && (decide ((byteAt y5 y7) ≤ 63))) 3 [26, 27] (fun b_ => [(28, iteV b_ (.int .i64 y7 : Value) undef), (29, iteV b_ (.bool (decide (y7 < 256)) : Value) undef), (30, .bool (b_ && (decide (y7 < 256))))]) rfl (fun hb24 hq25 => oS [(28, .int .i64 y7), (29, .bool (decide (y7 < 256))), (30, .bool (decide (y7 < 256)))] rfl (hq25)) (fun hb26 hq27 => oS [(28, undef), (29, undef), (30, .bool false)] rfl (hq27)) ?_
    refine oE ?_
    refine cwp_condB ((((decide (y7 < (y5.size : Int))) && (decide (32 ≤ (byteAt y5 y7)))) && (decide ((byteAt y5 y7) ≤ 63))) && (decide (y7 < 256))) (by kernel_rfl) (fun hc28 => ?_) (fun hc28 => ?_)
    · replace hM := ifT hc28 hM
      refine cwp_skip (thenE_n (cwp_block (cwp_region ?_)))
      refine oS [(31, .int .i64 y7), (32, .int .i64 (IntKind.wrap .i64 (y7 + 1))), (4, .int .i64 (IntKind.wrap .i64 (y7 + 1)))] rfl ?_
      refine owp_nil (blockE_n ?_)
      exact lwp_at 0 (.string y5) (by kernel_rfl) (lwp_at 2 (.pointer (some ⟨y6, 0, none⟩)) (by kernel_rfl) (lwp_at 4 (.int .i64 (IntKind.wrap .i64 (y7 + 1))) (by kernel_rfl) (ih y5 y6 (IntKind.wrap .i64 (y7 + 1)) _ _ hM)))
    replace hM := ifF hc28 hM
    refine cwp_exit (thenE_x ?_)
    exact q_at (Q := Q (.exit 0)) 0 (.string y5) (by kernel_rfl) (q_at (Q := Q (.exit 0)) 2 (.pointer (some ⟨y6, 0, none⟩)) (by kernel_rfl) (q_at (Q := Q (.exit 0)) 4 (.int .i64 y7) (by kernel_rfl) (hK0 y5 y6 y7 _ _ hM)))
def ref21_control_l1 (K2 : Nat → Int → ByteArray → Heap → Prop) (Kr : Nat → Int → Heap → Prop) : Nat → Nat → Int → ByteArray → Option Addr → Nat → Nat → Int → Heap → Prop
  | 0, _, _, _, _, _, _, _, _ => False
  | k + 1, y80, y81, y82, y83, y83n, y83c, y84, h =>
  if y84 < (y83n : Int) then
   nz y83 fun p88 =>
   0 ≤ y84 ∧
   y84 < (y83n : Int) ∧
   ldI h .i64 (p88.add ((y84).toNat * 2)) fun x89 =>
   if 16777217 ≤ x89 then
    0 ≤ y84 ∧
    y84 < (y83n : Int) ∧
    ldI h .i64 (p88.add ((y84).toNat * 2)) fun x103 =>
    ldI h .i64 ((p88.add ((y84).toNat * 2)).add 1) fun x105 =>
    if (ref21_Valid x103 x105) = true then
     0 ≤ y84 ∧
     y84 < (y83n : Int) ∧
     gap h fun h109 =>
     ldI h109 .i64 (p88.add ((y84).toNat * 2)) fun x122 =>
     ldI h109 .i64 ((p88.add ((y84).toNat * 2)).add 1) fun x124 =>
     ref21_Bytes x122 x124 false (fun x129 h128 =>
      if (x129.toList == y82.toList) = true then
       0 ≤ y84 ∧
       y84 < (y83n : Int) ∧
       ldI h128 .i64 (p88.add ((y84).toNat * 2)) fun x133 =>
       ldI h128 .i64 ((p88.add ((y84).toNat * 2)).add 1) fun x135 =>
       stN ⟨y80, 0, none⟩ [.int .i64 x133, .int .i64 x135] 0 h128 fun h139 =>
       Kr y80 (IntKind.wrap .i64 (y81 + 1)) h139
      else
       ref21_control_l1 K2 Kr k y80 y81 y82 (some p88) y83n y83c (IntKind.wrap .i64 (y84 + 1)) h128) h109
    else
    gap h fun h109 =>
    ref21_control_l1 K2 Kr k y80 y81 y82 (some p88) y83n y83c (IntKind.wrap .i64 (y84 + 1)) h109
   else
   ref21_control_l1 K2 Kr k y80 y81 y82 (some p88) y83n y83c (IntKind.wrap .i64 (y84 + 1)) h
  else
  K2 y80 y81 y82 h
theorem ref21_control_l1_ok {Q : Exit → Env → Heap → Prop} (K2 : Nat → Int → ByteArray → Heap → Prop) (hK2 : ∀ (z148 : Nat) (z149 : Int) (z150 : ByteArray) (b : Env) (h : Heap), K2 z148 z149 z150 h → Q (.exit 2) (upd (upd (upd b 2 (.pointer (some ⟨z148, 0, none⟩))) 4 (.int .i64 z149)) 5 (.string z150)) h) (Kr : Nat → Int → Heap → Prop) (hKr : ∀ (z153 : Nat) (z154 : Int) (b : Env) (h : Heap), Kr z153 z154 h → Q .ret (upd (upd b 2 (.pointer (some ⟨z153, 0, none⟩))) 3 (.int .i64 z154)) h) : ∀ (k : Nat) (y80 : Nat) (y81 : Int) (y82 : ByteArray) (y83 : Option Addr) (y83n : Nat) (y83c : Nat) (y84 : Int) (b : Env) (h : Heap) (hM : ref21_control_l1 K2 Kr k y80 y81 y82 y83 y83n y83c y84 h), lwp Tryd.prog (partC Tryd.f50 [1, 1, 1, 1, 1, 1, 1, 1, 0, 1, 0, 0]) 117 Q k (upd (upd (upd (upd (upd b 2 (.pointer (some ⟨y80, 0, none⟩))) 4 (.int .i64 y81)) 5 (.string y82)) 6 (.slice y83 y83n y83c)) 7 (.int .i64 y84)) h := by
  intro k
  induction k with
  | zero => intro y80 y81 y82 y83 y83n y83c y84 b h hM; exact (show False from hM).elim
  | succ k ih =>
    intro y80 y81 y82 y83 y83n y83c y84 b h hM
    unfold ref21_control_l1 at hM
    refine lwp_succ (cwp_part rfl ?_)
    refine cwp_seq (cR ?_)
    refine oS [(59, .int .i64 y84), (60, .slice y83 y83n y83c), (61, .int .i64 (y83n : Int)), (62, .bool (decide (y84 < (y83n : Int))))] rfl ?_
    refine oE ?_
    refine cwp_condD (y84 < (y83n : Int)) (by kernel_rfl) (fun hc85 => ?_) (fun hc85 => ?_)
    · replace hM := ifT hc85 hM
      refine cwp_skip (thenE_n (cwp_seq (cwp_block (cR ?_))))
      refine oS [(65, .slice y83 y83n y83c), (66, .int .i64 y84)] rfl ?_
      obtain ⟨p88, rfl, hM⟩ := hM
      obtain ⟨hc86, hM⟩ := hM
      obtain ⟨hc87, hM⟩ := hM
      refine owp_rdG (.pointer (some (p88.add ((y84).toNat * 2)))) rfl (by kernel_rfl) (rd_ixS (P := Tryd.prog) (h := h) (t := 27) (el := 36) (sz := 2) (ad := p88) (len := y83n) (c := y83c) (k := .i64) (i := y84) (by kernel_rfl) (by kernel_rfl) hc86 hc87 (by kernel_rfl)) ?_
      refine oS [(68, .pointer (some (p88.add ((y84).toNat * 2))))] rfl ?_
      obtain ⟨x89, hc90, hM⟩ := hM
      refine owp_rdG (.int .i64 x89) rfl (by kernel_rfl) (Eq.trans (b := (cellH h (p88.add ((y84).toNat * 2))).bind fun v91 => some (.value v91)) (by kernel_rfl) (bindE hc90 _)) ?_
      refine oS [(70, .bool (decide (16777217 ≤ x89))), (71, .bool (decide (16777217 ≤ x89)))] rfl ?_
      by_cases hc100 : 16777217 ≤ x89
      · refine owp_at 70 (.bool true) (Eq.trans (b := .bool (decide (16777217 ≤ x89))) (by kernel_rfl) (by rw [decide_eq_true hc100])) ?_
        refine owp_at 71 (.bool true) (Eq.trans (b := .bool (decide (16777217 ≤ x89))) (by kernel_rfl) (by rw [decide_eq_true hc100])) ?_
        replace hM := ifT hc100 hM
        refine oS [(72, .slice (some p88) y83n y83c), (73, .int .i64 y84)] rfl ?_
        obtain ⟨hc101, hM⟩ := hM
        obtain ⟨hc102, hM⟩ := hM
        refine owp_rdG (.pointer (some (p88.add ((y84).toNat * 2)))) rfl (by kernel_rfl) (rd_ixS (P := Tryd.prog) (h := h) (t := 27) (el := 36) (sz := 2) (ad := p88) (len := y83n) (c := y83c) (k := .i64) (i := y84) (by kernel_rfl) (by kernel_rfl) hc101 hc102 (by kernel_rfl)) ?_
        obtain ⟨x103, hc104, hM⟩ := hM
        obtain ⟨x105, hc106, hM⟩ := hM
        refine owp_rdG (.agg #[.int .i64 x103, .int .i64 x105]) rfl (by kernel_rfl) (Eq.trans (b := (cellH h (p88.add ((y84).toNat * 2))).bind fun v107 => (cellH h ((p88.add ((y84).toNat * 2)).add 1)).bind fun v108 => some (.value (.agg #[v107, v108]))) (by kernel_rfl) ((bindE hc104 _).trans (bindE hc106 _))) ?_
        refine owp_hpG rfl (by kernel_rfl) (hpCallP 18 #[.agg #[.int .i64 x103, .int .i64 x105]] (.bool (ref21_Valid x103 x105)) (by kernel_rfl) (ref21_Valid_ok x103 x105 _ h rfl) ?_)
        intro h109 hx110
        refine oS [(77, .bool (ref21_Valid x103 x105)), (78, .bool (ref21_Valid x103 x105))] rfl ?_
        by_cases hc119 : (ref21_Valid x103 x105) = true
        · refine owp_at 76 (.bool true) (Eq.trans (b := .bool (ref21_Valid x103 x105)) (by kernel_rfl) (by rw [hc119])) ?_
          refine owp_at 77 (.bool true) (Eq.trans (b := .bool (ref21_Valid x103 x105)) (by kernel_rfl) (by rw [hc119])) ?_
          refine owp_at 78 (.bool true) (Eq.trans (b := .bool (ref21_Valid x103 x105)) (by kernel_rfl) (by rw [hc119])) ?_
          replace hM := ifT hc119 hM
          refine oS [(79, .slice (some p88) y83n y83c), (80, .int .i64 y84)] rfl ?_
          obtain ⟨hc120, hM⟩ := hM
          obtain ⟨hc121, hM⟩ := hM
          refine owp_rdG (.pointer (some (p88.add ((y84).toNat * 2)))) rfl (by kernel_rfl) (rd_ixS (P := Tryd.prog) (h := h109) (t := 27) (el := 36) (sz := 2) (ad := p88) (len := y83n) (c := y83c) (k := .i64) (i := y84) (by kernel_rfl) (by kernel_rfl) hc120 hc121 (by kernel_rfl)) ?_
          replace hM := hM _ hx110
          obtain ⟨x122, hc123, hM⟩ := hM
          obtain ⟨x124, hc125, hM⟩ := hM
          refine owp_rdG (.agg #[.int .i64 x122, .int .i64 x124]) rfl (by kernel_rfl) (Eq.trans (b := (cellH h109 (p88.add ((y84).toNat * 2))).bind fun v126 => (cellH h109 ((p88.add ((y84).toNat * 2)).add 1)).bind fun v127 => some (.value (.agg #[v126, v127]))) (by kernel_rfl) ((bindE hc123 _).trans (bindE hc125 _))) ?_
          refine owp_hpG rfl (by kernel_rfl) (hpCallE 22 #[.agg #[.int .i64 x122, .int .i64 x124], .bool false] (by kernel_rfl) (ref21_Bytes_ok x122 x124 false _ h109 hM) ?_)
          rintro _ h128 ⟨x129, rfl, hM⟩
          refine oS [(84, .string y82), (85, .bool (x129.toList == y82.toList)), (86, .bool (x129.toList == y82.toList))] rfl ?_
          refine oE ?_
          refine cwp_condB (x129.toList == y82.toList) (by kernel_rfl) (fun hc130 => ?_) (fun hc130 => ?_)
          · replace hM := ifT hc130 hM
            refine cR ?_
            refine oS [(87, .slice (some p88) y83n y83c), (88, .int .i64 y84)] rfl ?_
            obtain ⟨hc131, hM⟩ := hM
            obtain ⟨hc132, hM⟩ := hM
            refine owp_rdG (.pointer (some (p88.add ((y84).toNat * 2)))) rfl (by kernel_rfl) (rd_ixS (P := Tryd.prog) (h := h128) (t := 27) (el := 36) (sz := 2) (ad := p88) (len := y83n) (c := y83c) (k := .i64) (i := y84) (by kernel_rfl) (by kernel_rfl) hc131 hc132 (by kernel_rfl)) ?_
            obtain ⟨x133, hc134, hM⟩ := hM
            obtain ⟨x135, hc136, hM⟩ := hM
            refine owp_rdG (.agg #[.int .i64 x133, .int .i64 x135]) rfl (by kernel_rfl) (Eq.trans (b := (cellH h128 (p88.add ((y84).toNat * 2))).bind fun v137 => (cellH h128 ((p88.add ((y84).toNat * 2)).add 1)).bind fun v138 => some (.value (.agg #[v137, v138]))) (by kernel_rfl) ((bindE hc134 _).trans (bindE hc136 _))) ?_
            refine oS [(91, .int .i64 y81), (92, .int .i64 (IntKind.wrap .i64 (y81 + 1)))] rfl ?_
            refine owp_hpD rfl (by kernel_rfl) (hpSt ⟨y80, 0, none⟩ [.int .i64 x133, .int .i64 x135] (fun _ => by kernel_rfl) rfl hM ?_)
            intro h139 hM
            refine oS [(3, .int .i64 (IntKind.wrap .i64 (y81 + 1)))] rfl ?_
            refine oE (cwp_ret (blockE_r (thenE_r ?_)))
            exact q_at (Q := Q .ret) 2 (.pointer (some ⟨y80, 0, none⟩)) (by kernel_rfl) (q_at (Q := Q .ret) 3 (.int .i64 (IntKind.wrap .i64 (y81 + 1))) (by kernel_rfl) (hKr y80 (IntKind.wrap .i64 (y81 + 1)) _ _ hM))
          replace hM := ifF hc130 hM
          refine cwp_skip (blockE_n (thenE_n (cwp_region ?_)))
          refine oS [(63, .int .i64 y84), (64, .int .i64 (IntKind.wrap .i64 (y84 + 1))), (7, .int .i64 (IntKind.wrap .i64 (y84 + 1)))] rfl ?_
          refine owp_nil ?_
          exact lwp_at 2 (.pointer (some ⟨y80, 0, none⟩)) (by kernel_rfl) (lwp_at 4 (.int .i64 y81) (by kernel_rfl) (lwp_at 5 (.string y82) (by kernel_rfl) (lwp_at 6 (.slice (some p88) y83n y83c) (by kernel_rfl) (lwp_at 7 (.int .i64 (IntKind.wrap .i64 (y84 + 1))) (by kernel_rfl) (ih y80 y81 y82 (some p88) y83n y83c (IntKind.wrap .i64 (y84 + 1)) _ _ hM)))))
        refine owp_at 76 (.bool false) (Eq.trans (b := .bool (ref21_Valid x103 x105)) (by kernel_rfl) (by rw [Bool.eq_false_iff.2 hc119])) ?_
        refine owp_at 77 (.bool false) (Eq.trans (b := .bool (ref21_Valid x103 x105)) (by kernel_rfl) (by rw [Bool.eq_false_iff.2 hc119])) ?_
        refine owp_at 78 (.bool false) (Eq.trans (b := .bool (ref21_Valid x103 x105)) (by kernel_rfl) (by rw [Bool.eq_false_iff.2 hc119])) ?_
        replace hM := ifF hc119 hM
        refine oS [(79, undef), (80, undef), (81, undef), (82, undef), (83, undef), (84, undef), (85, undef), (86, .bool false)] rfl ?_
        refine oE ?_
        refine cwp_cond (t := false) (by kernel_rfl) (fun hx_ => ?_) (fun hx_ => ?_)
        all_goals first | (cases hx_; done) | skip
        refine cwp_skip (blockE_n (thenE_n (cwp_region ?_)))
        refine oS [(63, .int .i64 y84), (64, .int .i64 (IntKind.wrap .i64 (y84 + 1))), (7, .int .i64 (IntKind.wrap .i64 (y84 + 1)))] rfl ?_
        refine owp_nil ?_
        replace hM := hM _ hx110
        exact lwp_at 2 (.pointer (some ⟨y80, 0, none⟩)) (by kernel_rfl) (lwp_at 4 (.int .i64 y81) (by kernel_rfl) (lwp_at 5 (.string y82) (by kernel_rfl) (lwp_at 6 (.slice (some p88) y83n y83c) (by kernel_rfl) (lwp_at 7 (.int .i64 (IntKind.wrap .i64 (y84 + 1))) (by kernel_rfl) (ih y80 y81 y82 (some p88) y83n y83c (IntKind.wrap .i64 (y84 + 1)) _ _ hM)))))
      refine owp_at 70 (.bool false) (Eq.trans (b := .bool (decide (16777217 ≤ x89))) (by kernel_rfl) (by rw [decide_eq_false hc100])) ?_
      refine owp_at 71 (.bool false) (Eq.trans (b := .bool (decide (16777217 ≤ x89))) (by kernel_rfl) (by rw [decide_eq_false hc100])) ?_
      replace hM := ifF hc100 hM
      refine oS [(72, undef), (73, undef), (74, undef), (75, undef), (76, undef), (77, .bool false), (78, .bool false), (79, undef), (80, undef), (81, undef), (82, undef), (83, undef), (84, undef), (85, undef), (86, .bool false)] rfl ?_
      refine oE ?_
      refine cwp_cond (t := false) (by kernel_rfl) (fun hx_ => ?_) (fun hx_ => ?_)
      all_goals first | (cases hx_; done) | skip
      refine cwp_skip (blockE_n (thenE_n (cwp_region ?_)))
      refine oS [(63, .int .i64 y84), (64, .int .i64 (IntKind.wrap .i64 (y84 + 1))), (7, .int .i64 (IntKind.wrap .i64 (y84 + 1)))] rfl ?_
      refine owp_nil ?_
      exact lwp_at 2 (.pointer (some ⟨y80, 0, none⟩)) (by kernel_rfl) (lwp_at 4 (.int .i64 y81) (by kernel_rfl) (lwp_at 5 (.string y82) (by kernel_rfl) (lwp_at 6 (.slice (some p88) y83n y83c) (by kernel_rfl) (lwp_at 7 (.int .i64 (IntKind.wrap .i64 (y84 + 1))) (by kernel_rfl) (ih y80 y81 y82 (some p88) y83n y83c (IntKind.wrap .i64 (y84 + 1)) _ _ hM)))))
    replace hM := ifF hc85 hM
    refine cwp_exit (thenE_x ?_)
    exact q_at (Q := Q (.exit 2)) 2 (.pointer (some ⟨y80, 0, none⟩)) (by kernel_rfl) (q_at (Q := Q (.exit 2)) 4 (.int .i64 y81) (by kernel_rfl) (q_at (Q := Q (.exit 2)) 5 (.string y82) (by kernel_rfl) (hK2 y80 y81 y82 _ _ hM)))
def ref21_control_l2 (K4 : Nat → Int → Heap → Prop) (Kr : Nat → Int → Heap → Prop) : Nat → Nat → Int → ByteArray → Option Addr → Nat → Nat → Option Addr → Nat → Nat → Int → Heap → Prop
  | 0, _, _, _, _, _, _, _, _, _, _, _ => False
  | k + 1, y165, y166, y167, y168, y168n, y168c, y169, y169n, y169c, y170, h =>
  if y170 < (y168n : Int) then
   nz y168 fun p174 =>
   0 ≤ y170 ∧
   y170 < (y168n : Int) ∧
   ldS h (p174.add ((y170).toNat * 1)) fun x175 =>
   if (x175.toList == y167.toList) = true then
    nz y169 fun p181 =>
    0 ≤ y170 ∧
    y170 < (y169n : Int) ∧
    ldI h .i64 (p181.add ((y170).toNat * 1)) fun x182 =>
    stN ⟨y165, 0, none⟩ [.int .i64 x182, .int .i64 0] 0 h fun h185 =>
    Kr y165 (IntKind.wrap .i64 (y166 + 1)) h185
   else
   ref21_control_l2 K4 Kr k y165 y166 y167 (some p174) y168n y168c y169 y169n y169c (IntKind.wrap .i64 (y170 + 1)) h
  else
  K4 y165 y166 h
theorem ref21_control_l2_ok {Q : Exit → Env → Heap → Prop} (K4 : Nat → Int → Heap → Prop) (hK4 : ∀ (z192 : Nat) (z193 : Int) (b : Env) (h : Heap), K4 z192 z193 h → Q (.exit 4) (upd (upd b 2 (.pointer (some ⟨z192, 0, none⟩))) 4 (.int .i64 z193)) h) (Kr : Nat → Int → Heap → Prop) (hKr : ∀ (z196 : Nat) (z197 : Int) (b : Env) (h : Heap), Kr z196 z197 h → Q .ret (upd (upd b 2 (.pointer (some ⟨z196, 0, none⟩))) 3 (.int .i64 z197)) h) : ∀ (k : Nat) (y165 : Nat) (y166 : Int) (y167 : ByteArray) (y168 : Option Addr) (y168n : Nat) (y168c : Nat) (y169 : Option Addr) (y169n : Nat) (y169c : Nat) (y170 : Int) (b : Env) (h : Heap) (hM : ref21_control_l2 K4 Kr k y165 y166 y167 y168 y168n y168c y169 y169n y169c y170 h), lwp Tryd.prog (partC Tryd.f50 [1, 1, 1, 1, 1, 1, 1, 1, 1, 1, 1, 0, 1, 0, 0]) 117 Q k (upd (upd (upd (upd (upd (upd b 2 (.pointer (some ⟨y165, 0, none⟩))) 4 (.int .i64 y166)) 5 (.string y167)) 8 (.slice y168 y168n y168c)) 9 (.slice y169 y169n y169c)) 10 (.int .i64 y170)) h := by
  intro k
  induction k with
  | zero => intro y165 y166 y167 y168 y168n y168c y169 y169n y169c y170 b h hM; exact (show False from hM).elim
  | succ k ih =>
    intro y165 y166 y167 y168 y168n y168c y169 y169n y169c y170 b h hM
    unfold ref21_control_l2 at hM
    refine lwp_succ (cwp_part rfl ?_)
    refine cwp_seq (cR ?_)
    refine oS [(95, .int .i64 y170), (96, .slice y168 y168n y168c), (97, .int .i64 (y168n : Int)), (98, .bool (decide (y170 < (y168n : Int))))] rfl ?_
    refine oE ?_
    refine cwp_condD (y170 < (y168n : Int)) (by kernel_rfl) (fun hc171 => ?_) (fun hc171 => ?_)
    · replace hM := ifT hc171 hM
      refine cwp_skip (thenE_n (cwp_seq (cwp_block (cR ?_))))
      refine oS [(101, .slice y168 y168n y168c), (102, .int .i64 y170)] rfl ?_
      obtain ⟨p174, rfl, hM⟩ := hM
      obtain ⟨hc172, hM⟩ := hM
      obtain ⟨hc173, hM⟩ := hM
      refine owp_rdG (.pointer (some (p174.add ((y170).toNat * 1)))) rfl (by kernel_rfl) (rd_ixS (P := Tryd.prog) (h := h) (t := 22) (el := 9) (sz := 1) (ad := p174) (len := y168n) (c := y168c) (k := .i64) (i := y170) (by kernel_rfl) (by kernel_rfl) hc172 hc173 (by kernel_rfl)) ?_
      obtain ⟨x175, hc176, hM⟩ := hM
      refine owp_rdG (.string x175) rfl (by kernel_rfl) (Eq.trans (b := (cellH h (p174.add ((y170).toNat * 1))).bind fun v177 => some (.value v177)) (by kernel_rfl) (bindE hc176 _)) ?_
      refine oS [(105, .string y167), (106, .bool (x175.toList == y167.toList))] rfl ?_
      refine oE ?_
      refine cwp_condB (x175.toList == y167.toList) (by kernel_rfl) (fun hc178 => ?_) (fun hc178 => ?_)
      · replace hM := ifT hc178 hM
        refine cR ?_
        refine oS [(107, .slice y169 y169n y169c), (108, .int .i64 y170)] rfl ?_
        obtain ⟨p181, rfl, hM⟩ := hM
        obtain ⟨hc179, hM⟩ := hM
        obtain ⟨hc180, hM⟩ := hM
        refine owp_rdG (.pointer (some (p181.add ((y170).toNat * 1)))) rfl (by kernel_rfl) (rd_ixS (P := Tryd.prog) (h := h) (t := 71) (el := 3) (sz := 1) (ad := p181) (len := y169n) (c := y169c) (k := .i64) (i := y170) (by kernel_rfl) (by kernel_rfl) hc179 hc180 (by kernel_rfl)) ?_
        obtain ⟨x182, hc183, hM⟩ := hM
        refine owp_rdG (.int .i64 x182) rfl (by kernel_rfl) (Eq.trans (b := (cellH h (p181.add ((y170).toNat * 1))).bind fun v184 => some (.value v184)) (by kernel_rfl) (bindE hc183 _)) ?_
        refine oS [(111, .agg #[.int .i64 x182, .int .i64 0]), (112, .int .i64 y166), (113, .int .i64 (IntKind.wrap .i64 (y166 + 1)))] rfl ?_
        refine owp_hpD rfl (by kernel_rfl) (hpSt ⟨y165, 0, none⟩ [.int .i64 x182, .int .i64 0] (fun _ => by kernel_rfl) rfl hM ?_)
        intro h185 hM
        refine oS [(3, .int .i64 (IntKind.wrap .i64 (y166 + 1)))] rfl ?_
        refine oE (cwp_ret (blockE_r (thenE_r ?_)))
        exact q_at (Q := Q .ret) 2 (.pointer (some ⟨y165, 0, none⟩)) (by kernel_rfl) (q_at (Q := Q .ret) 3 (.int .i64 (IntKind.wrap .i64 (y166 + 1))) (by kernel_rfl) (hKr y165 (IntKind.wrap .i64 (y166 + 1)) _ _ hM))
      replace hM := ifF hc178 hM
      refine cwp_skip (blockE_n (thenE_n (cwp_region ?_)))
      refine oS [(99, .int .i64 y170), (100, .int .i64 (IntKind.wrap .i64 (y170 + 1))), (10, .int .i64 (IntKind.wrap .i64 (y170 + 1)))] rfl ?_
      refine owp_nil ?_
      exact lwp_at 2 (.pointer (some ⟨y165, 0, none⟩)) (by kernel_rfl) (lwp_at 4 (.int .i64 y166) (by kernel_rfl) (lwp_at 5 (.string y167) (by kernel_rfl) (lwp_at 8 (.slice (some p174) y168n y168c) (by kernel_rfl) (lwp_at 9 (.slice y169 y169n y169c) (by kernel_rfl) (lwp_at 10 (.int .i64 (IntKind.wrap .i64 (y170 + 1))) (by kernel_rfl) (ih y165 y166 y167 (some p174) y168n y168c y169 y169n y169c (IntKind.wrap .i64 (y170 + 1)) _ _ hM))))))
    replace hM := ifF hc171 hM
    refine cwp_exit (thenE_x ?_)
    exact q_at (Q := Q (.exit 4)) 2 (.pointer (some ⟨y165, 0, none⟩)) (by kernel_rfl) (q_at (Q := Q (.exit 4)) 4 (.int .i64 y166) (by kernel_rfl) (hK4 y165 y166 _ _ hM))
def ref21_control (a1 : ByteArray) (K : Int → Int → Int → Heap → Prop) (h : Heap) : Prop :=
 newB h #[.int .i64 0, .int .i64 0] 36 fun b2 h3 =>
 ∃ k233, ref21_control_l0
  (fun z38 z39 z40 h41 =>
    if z40 = 256 then
     stN ⟨z39, 0, none⟩ [.int .i64 0, .int .i64 0] 0 h41 fun h43 =>
     ldI h43 .i64 ⟨z39, 0, none⟩ fun x44 =>
     ldI h43 .i64 ⟨z39, 1, none⟩ fun x46 =>
     K x44 x46 z40 h43
    else
    if z40 = (z38.size : Int) then
     stN ⟨z39, 0, none⟩ [.int .i64 0, .int .i64 0] 0 h41 fun h51 =>
     ldI h51 .i64 ⟨z39, 0, none⟩ fun x52 =>
     ldI h51 .i64 ⟨z39, 1, none⟩ fun x54 =>
     K x52 x54 0 h51
    else
    0 ≤ z40 ∧
    z40 < (z38.size : Int) ∧
    ((decide ((byteAt z38 z40) < 64)) = false → 0 ≤ z40) ∧
    ((decide ((byteAt z38 z40) < 64)) = false → z40 < (z38.size : Int)) ∧
    if ((decide ((byteAt z38 z40) < 64)) || (decide (126 < (byteAt z38 z40)))) = true then
     stN ⟨z39, 0, none⟩ [.int .i64 0, .int .i64 0] 0 h41 fun h69 =>
     ldI h69 .i64 ⟨z39, 0, none⟩ fun x70 =>
     ldI h69 .i64 ⟨z39, 1, none⟩ fun x72 =>
     K x70 x72 z40 h69
    else
    0 ≤ (IntKind.wrap .i64 (z40 + 1)) ∧
    (IntKind.wrap .i64 (z40 + 1)) ≤ (z38.size : Int) ∧
    ref21_all  (fun x79 x79n x79c h78 =>
     ∃ k231, ref21_control_l1
      (fun z155 z156 z157 h158 =>
        newB h158 #[.string (⟨#[27, 91, 49, 126]⟩ : ByteArray), .string (⟨#[27, 91, 52, 126]⟩ : ByteArray), .string (⟨#[27, 91, 49, 49, 126]⟩ : ByteArray), .string (⟨#[27, 91, 49, 50, 126]⟩ : ByteArray), .string (⟨#[27, 91, 49, 51, 126]⟩ : ByteArray), .string (⟨#[27, 91, 49, 52, 126]⟩ : ByteArray)] 9 fun b159 h160 =>
        newB h160 #[.int .i64 16777221, .int .i64 16777222, .int .i64 16777227, .int .i64 16777228, .int .i64 16777229, .int .i64 16777230] 3 fun b162 h163 =>
        ∃ k219, ref21_control_l2
         (fun z198 z199 h200 =>
           stN ⟨z198, 0, none⟩ [.int .i64 0, .int .i64 0] 0 h200 fun h201 =>
           ldI h201 .i64 ⟨z198, 0, none⟩ fun x202 =>
           ldI h201 .i64 ⟨z198, 1, none⟩ fun x204 =>
             K x202 x204 (IntKind.wrap .i64 (z199 + 1)) h201)
         (fun z209 z210 h211 =>
           ldI h211 .i64 ⟨z209, 0, none⟩ fun x212 =>
           ldI h211 .i64 ⟨z209, 1, none⟩ fun x214 =>
               K x212 x214 z210 h211) k219 z155 z156 z157 (some ⟨b159, 0, none⟩) 6 6 (some ⟨b162, 0, none⟩) 6 6 0 h163)
      (fun z221 z222 h223 =>
        ldI h223 .i64 ⟨z221, 0, none⟩ fun x224 =>
        ldI h223 .i64 ⟨z221, 1, none⟩ fun x226 =>
             K x224 x226 z222 h223) k231 z39 z40 (z38.extract 0 ((IntKind.wrap .i64 (z40 + 1)).toNat)) x79 x79n x79c 0 h78) h41) k233 a1 b2 2 h3
theorem ref21_control_ok (a1 : ByteArray) (K : Int → Int → Int → Heap → Prop) (h : Heap) (hM : ref21_control a1 K h) : CallsH Tryd.prog 50 #[.string a1] (fun v h' => ∃ (r234 : Int) (r235 : Int) (r236 : Int), v = .tuple #[.agg #[.int .i64 r234, .int .i64 r235], .int .i64 r236] ∧ K r234 r235 r236 h') h := by
 unfold ref21_control at hM
 refine callsH_intro (n := 117) Tryd.func50 rfl rfl (by kernel_rfl) ?_
 refine cR ?_
 refine owp_hpG rfl (by kernel_rfl) (hpNew #[.int .i64 0, .int .i64 0] 36 (fun _ => by kernel_rfl) ?_)
 intro b2 h3 hN4
 replace hM := newB_of hN4 hM
 refine oS [(3, .int .i64 0)] rfl ?_
 refine oE (cR ?_)
 refine oS [(4, .int .i64 2)] rfl ?_
 refine oE (cwp_seq (cwp_block ?_))
 obtain ⟨k_, hM⟩ := hM
 refine cwp_loop k_ (lwp_of_part (fn := Tryd.f50) (p := [1, 1, 0, 0, 0]) (by kernel_rfl) (lwp_at 0 (.string a1) (by kernel_rfl) (lwp_at 2 (.pointer (some ⟨b2, 0, none⟩)) (by kernel_rfl) (lwp_at 4 (.int .i64 2) (by kernel_rfl) (ref21_control_l0_ok _ ?_ k_ a1 b2 2 _ _ hM)))))
 · intro z38 z39 z40 b232 h41 hM
   refine blockE_h (thenE_n (cwp_seq (cR ?_)))
   refine oS [(33, .int .i64 z40), (34, .bool (decide (z40 = 256)))] rfl ?_
   refine oE ?_
   refine cwp_condD (z40 = 256) (by kernel_rfl) (fun hc42 => ?_) (fun hc42 => ?_)
   · replace hM := ifT hc42 hM
     refine cR ?_
     refine oS [(35, .agg #[.int .i64 0, .int .i64 0]), (36, .int .i64 z40)] rfl ?_
     refine owp_hpD rfl (by kernel_rfl) (hpSt ⟨z39, 0, none⟩ [.int .i64 0, .int .i64 0] (fun _ => by kernel_rfl) rfl hM ?_)
     intro h43 hM
     refine oS [(3, .int .i64 z40)] rfl ?_
     refine oE (cwp_ret (thenE_r ?_))
     obtain ⟨x44, hc45, hM⟩ := hM
     obtain ⟨x46, hc47, hM⟩ := hM
     exact ret_ (.tuple #[.agg #[.int .i64 x44, .int .i64 x46], .int .i64 z40]) (Eq.trans (b := (cellH h43 ⟨z39, 0, none⟩).bind fun v48 => (cellH h43 ⟨z39, 1, none⟩).bind fun v49 => some (.tuple #[.agg #[v48, v49], .int .i64 z40])) (by kernel_rfl) ((bindE hc45 _).trans (bindE hc47 _))) ⟨_, _, _, rfl, hM⟩
   replace hM := ifF hc42 hM
   refine cwp_skip (thenE_n (cwp_seq (cR ?_)))
   refine oS [(37, .int .i64 z40), (38, .string z38), (39, .int .i64 (z38.size : Int)), (40, .bool (decide (z40 = (z38.size : Int))))] rfl ?_
   refine oE ?_
   refine cwp_condD (z40 = (z38.size : Int)) (by kernel_rfl) (fun hc50 => ?_) (fun hc50 => ?_)
   · replace hM := ifT hc50 hM
     refine cR ?_
     refine oS [(41, .agg #[.int .i64 0, .int .i64 0])] rfl ?_
     refine owp_hpD rfl (by kernel_rfl) (hpSt ⟨z39, 0, none⟩ [.int .i64 0, .int .i64 0] (fun _ => by kernel_rfl) rfl hM ?_)
     intro h51 hM
     refine oS [(3, .int .i64 0)] rfl ?_
     refine oE (cwp_ret (thenE_r ?_))
     obtain ⟨x52, hc53, hM⟩ := hM
     obtain ⟨x54, hc55, hM⟩ := hM
     exact ret_ (.tuple #[.agg #[.int .i64 x52, .int .i64 x54], .int .i64 0]) (Eq.trans (b := (cellH h51 ⟨z39, 0, none⟩).bind fun v56 => (cellH h51 ⟨z39, 1, none⟩).bind fun v57 => some (.tuple #[.agg #[v56, v57], .int .i64 0])) (by kernel_rfl) ((bindE hc53 _).trans (bindE hc55 _))) ⟨_, _, _, rfl, hM⟩
   replace hM := ifF hc50 hM
   refine cwp_skip (thenE_n (cwp_seq (cR ?_)))
   refine oS [(42, .string z38), (43, .int .i64 z40)] rfl ?_
   obtain ⟨hc58, hM⟩ := hM
   obtain ⟨hc59, hM⟩ := hM
   refine owp_rdG (.int .u8 (byteAt z38 z40)) rfl (by kernel_rfl) (rd_ixStr (P := Tryd.prog) (h := h41) (t := 9) (s := z38) (k := .i64) (i := z40) (by kernel_rfl) hc58 hc59 (by kernel_rfl)) ?_
   refine oS [(45, .bool (decide ((byteAt z38 z40) < 64))), (46, .bool (decide ((byteAt z38 z40) < 64)))] rfl ?_
   obtain ⟨hc66, hM⟩ := hM
   obtain ⟨hc67, hM⟩ := hM
   refine oB (decide ((byteAt z38 z40) < 64)) 5 [45, 46] (fun b_ => [(47, iteV b_ undef (.string z38 : Value)), (48, iteV b_ undef (.int .i64 z40 : Value)), (49, iteV b_ undef (.int .u8 (byteAt z38 z40) : Value)), (50, iteV b_ undef (.bool (decide (126 < (byteAt z38 z40))) : Value)), (51, .bool (b_ || (decide (126 < (byteAt z38 z40)))))]) rfl (fun hb62 hq63 => oS [(47, undef), (48, undef), (49, undef), (50, undef), (51, .bool true)] rfl (hq63)) (fun hb64 hq65 => have hc60 := hc66 hb64; have hc61 := hc67 hb64; oS [(47, .string z38), (48, .int .i64 z40)] rfl (owp_rdG (.int .u8 (byteAt z38 z40)) rfl (by kernel_rfl) (rd_ixStr (P := Tryd.prog) (h := h41) (t := 9) (s := z38) (k := .i64) (i := z40) (by kernel_rfl) hc60 hc61 (by kernel_rfl)) (oS [(50, .bool (decide (126 < (byteAt z38 z40)))), (51, .bool (decide (126 < (byteAt z38 z40))))] rfl (hq65)))) ?_
   refine oE ?_
   refine cwp_condB ((decide ((byteAt z38 z40) < 64)) || (decide (126 < (byteAt z38 z40)))) (by kernel_rfl) (fun hc68 => ?_) (fun hc68 => ?_)
   · replace hM := ifT hc68 hM
     refine cR ?_
     refine oS [(52, .agg #[.int .i64 0, .int .i64 0]), (53, .int .i64 z40)] rfl ?_
     refine owp_hpD rfl (by kernel_rfl) (hpSt ⟨z39, 0, none⟩ [.int .i64 0, .int .i64 0] (fun _ => by kernel_rfl) rfl hM ?_)
     intro h69 hM
     refine oS [(3, .int .i64 z40)] rfl ?_
     refine oE (cwp_ret (thenE_r ?_))
     obtain ⟨x70, hc71, hM⟩ := hM
     obtain ⟨x72, hc73, hM⟩ := hM
     exact ret_ (.tuple #[.agg #[.int .i64 x70, .int .i64 x72], .int .i64 z40]) (Eq.trans (b := (cellH h69 ⟨z39, 0, none⟩).bind fun v74 => (cellH h69 ⟨z39, 1, none⟩).bind fun v75 => some (.tuple #[.agg #[v74, v75], .int .i64 z40])) (by kernel_rfl) ((bindE hc71 _).trans (bindE hc73 _))) ⟨_, _, _, rfl, hM⟩
   replace hM := ifF hc68 hM
   refine cwp_skip (thenE_n (cR ?_))
   refine oS [(54, .string z38), (55, .int .i64 z40), (56, .int .i64 (IntKind.wrap .i64 (z40 + 1)))] rfl ?_
   obtain ⟨hc76, hM⟩ := hM
   obtain ⟨hc77, hM⟩ := hM
   refine owp_rdG (.string (z38.extract 0 ((IntKind.wrap .i64 (z40 + 1)).toNat))) rfl (by kernel_rfl) (rd_slHi (P := Tryd.prog) (h := h41) (t := 9) (s := z38) (k := .i64) (i := (IntKind.wrap .i64 (z40 + 1))) (by kernel_rfl) hc76 hc77 (by kernel_rfl)) ?_
   refine oS [(5, .string (z38.extract 0 ((IntKind.wrap .i64 (z40 + 1)).toNat)))] rfl ?_
   refine oE (cR ?_)
   refine owp_hpG rfl (by kernel_rfl) (hpCallE 44 #[] (by kernel_rfl) (ref21_all_ok  _ h41 hM) ?_)
   rintro _ h78 ⟨x79, x79n, x79c, rfl, hM⟩
   refine oS [(6, .slice x79 x79n x79c)] rfl ?_
   refine oE (cwp_seq (cR ?_))
   refine oS [(7, .int .i64 0)] rfl ?_
   refine oE (cwp_block ?_)
   obtain ⟨k_, hM⟩ := hM
   refine cwp_loop k_ (lwp_of_part (fn := Tryd.f50) (p := [1, 1, 1, 1, 1, 1, 1, 1, 0, 1, 0, 0]) (by kernel_rfl) (lwp_at 2 (.pointer (some ⟨z39, 0, none⟩)) (by kernel_rfl) (lwp_at 4 (.int .i64 z40) (by kernel_rfl) (lwp_at 5 (.string (z38.extract 0 ((IntKind.wrap .i64 (z40 + 1)).toNat))) (by kernel_rfl) (lwp_at 6 (.slice x79 x79n x79c) (by kernel_rfl) (lwp_at 7 (.int .i64 0) (by kernel_rfl) (ref21_control_l1_ok _ ?_ _ ?_ k_ z39 z40 (z38.extract 0 ((IntKind.wrap .i64 (z40 + 1)).toNat)) x79 x79n x79c 0 _ _ hM)))))))
   · intro z155 z156 z157 b220 h158 hM
     refine blockE_h (thenE_n (cR ?_))
     refine owp_hpG rfl (by kernel_rfl) (hpNewS #[.string (⟨#[27, 91, 49, 126]⟩ : ByteArray), .string (⟨#[27, 91, 52, 126]⟩ : ByteArray), .string (⟨#[27, 91, 49, 49, 126]⟩ : ByteArray), .string (⟨#[27, 91, 49, 50, 126]⟩ : ByteArray), .string (⟨#[27, 91, 49, 51, 126]⟩ : ByteArray), .string (⟨#[27, 91, 49, 52, 126]⟩ : ByteArray)] 9 6 (fun _ => by kernel_rfl) ?_)
     intro b159 h160 hN161
     replace hM := newB_of hN161 hM
     refine oS [(8, .slice (some ⟨b159, 0, none⟩) 6 6)] rfl ?_
     refine oE (cR ?_)
     refine owp_hpG rfl (by kernel_rfl) (hpNewS #[.int .i64 16777221, .int .i64 16777222, .int .i64 16777227, .int .i64 16777228, .int .i64 16777229, .int .i64 16777230] 3 6 (fun _ => by kernel_rfl) ?_)
     intro b162 h163 hN164
     replace hM := newB_of hN164 hM
     refine oS [(9, .slice (some ⟨b162, 0, none⟩) 6 6)] rfl ?_
     refine oE (cwp_seq (cR ?_))
     refine oS [(10, .int .i64 0)] rfl ?_
     refine oE (cwp_block ?_)
     obtain ⟨k_, hM⟩ := hM
     refine cwp_loop k_ (lwp_of_part (fn := Tryd.f50) (p := [1, 1, 1, 1, 1, 1, 1, 1, 1, 1, 1, 0, 1, 0, 0]) (by kernel_rfl) (lwp_at 2 (.pointer (some ⟨z155, 0, none⟩)) (by kernel_rfl) (lwp_at 4 (.int .i64 z156) (by kernel_rfl) (lwp_at 5 (.string z157) (by kernel_rfl) (lwp_at 8 (.slice (some ⟨b159, 0, none⟩) 6 6) (by kernel_rfl) (lwp_at 9 (.slice (some ⟨b162, 0, none⟩) 6 6) (by kernel_rfl) (lwp_at 10 (.int .i64 0) (by kernel_rfl) (ref21_control_l2_ok _ ?_ _ ?_ k_ z155 z156 z157 (some ⟨b159, 0, none⟩) 6 6 (some ⟨b162, 0, none⟩) 6 6 0 _ _ hM))))))))
     · intro z198 z199 b208 h200 hM
       refine blockE_h (thenE_n (cR ?_))
       refine oS [(114, .agg #[.int .i64 0, .int .i64 0]), (115, .int .i64 z199), (116, .int .i64 (IntKind.wrap .i64 (z199 + 1)))] rfl ?_
       refine owp_hpD rfl (by kernel_rfl) (hpSt ⟨z198, 0, none⟩ [.int .i64 0, .int .i64 0] (fun _ => by kernel_rfl) rfl hM ?_)
       intro h201 hM
       refine oS [(3, .int .i64 (IntKind.wrap .i64 (z199 + 1)))] rfl ?_
       refine oE (cwp_ret ?_)
       obtain ⟨x202, hc203, hM⟩ := hM
       obtain ⟨x204, hc205, hM⟩ := hM
       exact ret_ (.tuple #[.agg #[.int .i64 x202, .int .i64 x204], .int .i64 (IntKind.wrap .i64 (z199 + 1))]) (Eq.trans (b := (cellH h201 ⟨z198, 0, none⟩).bind fun v206 => (cellH h201 ⟨z198, 1, none⟩).bind fun v207 => some (.tuple #[.agg #[v206, v207], .int .i64 (IntKind.wrap .i64 (z199 + 1))])) (by kernel_rfl) ((bindE hc203 _).trans (bindE hc205 _))) ⟨_, _, _, rfl, hM⟩
     · intro z209 z210 b218 h211 hM
       refine blockE_r (thenE_r ?_)
       obtain ⟨x212, hc213, hM⟩ := hM
       obtain ⟨x214, hc215, hM⟩ := hM
       exact ret_ (.tuple #[.agg #[.int .i64 x212, .int .i64 x214], .int .i64 z210]) (Eq.trans (b := (cellH h211 ⟨z209, 0, none⟩).bind fun v216 => (cellH h211 ⟨z209, 1, none⟩).bind fun v217 => some (.tuple #[.agg #[v216, v217], .int .i64 z210])) (by kernel_rfl) ((bindE hc213 _).trans (bindE hc215 _))) ⟨_, _, _, rfl, hM⟩
   · intro z221 z222 b230 h223 hM
     refine blockE_r (thenE_r ?_)
     obtain ⟨x224, hc225, hM⟩ := hM
     obtain ⟨x226, hc227, hM⟩ := hM
     exact ret_ (.tuple #[.agg #[.int .i64 x224, .int .i64 x226], .int .i64 z222]) (Eq.trans (b := (cellH h223 ⟨z221, 0, none⟩).bind fun v228 => (cellH h223 ⟨z221, 1, none⟩).bind fun v229 => some (.tuple #[.agg #[v228, v229], .int .i64 z222])) (by kernel_rfl) ((bindE hc225 _).trans (bindE hc227 _))) ⟨_, _, _, rfl, hM⟩
/- mullion/mullionref21.begin -/
def ref21_begin_l0 (K1 : Nat → Heap → Prop) (Kr : Nat → Int → Heap → Prop) : Nat → ByteArray → Nat → Int → Heap → Prop
  | 0, _, _, _, _ => False
  | k + 1, y39, y40, y41, h =>
  if y41 ≤ 16777238 then
   (3 : Int) ≤ (y39.size : Int) ∧
   (2 : Int) ≤ (3 : Int) ∧
   ref21_letter y41 (fun x46 h45 =>
    if (x46.toList == (y39.extract ((2 : Int).toNat) ((3 : Int).toNat)).toList) = true then
     stN ⟨y40, 0, none⟩ [.int .i64 y41, .int .i64 0] 0 h45 fun h48 =>
     Kr y40 3 h48
    else
     ref21_begin_l0 K1 Kr k y39 y40 (IntKind.wrap .i64 (y41 + 1)) h45) h
  else
  K1 y40 h
theorem ref21_begin_l0_ok {Q : Exit → Env → Heap → Prop} (K1 : Nat → Heap → Prop) (hK1 : ∀ (z53 : Nat) (b : Env) (h : Heap), K1 z53 h → Q (.exit 1) (upd b 2 (.pointer (some ⟨z53, 0, none⟩))) h) (Kr : Nat → Int → Heap → Prop) (hKr : ∀ (z56 : Nat) (z57 : Int) (b : Env) (h : Heap), Kr z56 z57 h → Q .ret (upd (upd b 2 (.pointer (some ⟨z56, 0, none⟩))) 3 (.int .i64 z57)) h) : ∀ (k : Nat) (y39 : ByteArray) (y40 : Nat) (y41 : Int) (b : Env) (h : Heap) (hM : ref21_begin_l0 K1 Kr k y39 y40 y41 h), lwp Tryd.prog (partC Tryd.f29 [1, 1, 1, 0, 1, 0, 1, 1, 1, 0, 1, 0, 1, 0, 0]) 46 Q k (upd (upd (upd b 0 (.string y39)) 2 (.pointer (some ⟨y40, 0, none⟩))) 4 (.int .i64 y41)) h := by
  intro k
  induction k with
  | zero => intro y39 y40 y41 b h hM; exact (show False from hM).elim
  | succ k ih =>
    intro y39 y40 y41 b h hM
    unfold ref21_begin_l0 at hM
    refine lwp_succ (cwp_part rfl ?_)
    refine cwp_seq (cR ?_)
    refine oS [(30, .int .i64 y41), (31, .bool (decide (y41 ≤ 16777238)))] rfl ?_
    refine oE ?_
    refine cwp_condD (y41 ≤ 16777238) (by kernel_rfl) (fun hc42 => ?_) (fun hc42 => ?_)
    · replace hM := ifT hc42 hM
      refine cwp_skip (thenE_n (cwp_seq (cwp_block (cwp_seq ?_))))
      refine cwp_draw (by kernel_rfl) ?_
      refine k_pure (i := 0) [1, 4] (.int .i64 y41) (by kernel_rfl) rfl rfl (by kernel_rfl) (fun h' => by kernel_rfl) (by kernel_rfl) ?_
      refine k_pure (i := 2) [3, 4] (.string y39) (by kernel_rfl) rfl rfl (by kernel_rfl) (fun h' => by kernel_rfl) (by kernel_rfl) ?_
      obtain ⟨hc43, hM⟩ := hM
      obtain ⟨hc44, hM⟩ := hM
      refine k_pure (i := 3) [4] (.string (y39.extract ((2 : Int).toNat) ((3 : Int).toNat))) (by kernel_rfl) rfl rfl (by kernel_rfl) (fun h' => rd_slLH (P := Tryd.prog) (h := h') (t := 9) (s := y39) (k := .i64) (k' := .i64) (i := (2 : Int)) (j := (3 : Int)) (by kernel_rfl) (by decide) hc43 (by decide) hc44 (by kernel_rfl)) (by kernel_rfl) ?_
      refine k_eff (j := 1) (by kernel_rfl) rfl rfl (by kernel_rfl) (hpCallE 51 #[.int .i64 y41] (by kernel_rfl) (ref21_letter_ok y41 _ h hM) ?_)
      rintro _ h45 ⟨x46, rfl, hM⟩
      refine ⟨trivial, ?_⟩
      refine k_pure (i := 4) [] (.bool (x46.toList == (y39.extract ((2 : Int).toNat) ((3 : Int).toNat)).toList)) (by kernel_rfl) rfl rfl (by kernel_rfl) (fun h' => by kernel_rfl) (by kernel_rfl) ?_
      refine k_done (by kernel_rfl) ?_
      refine thenE_n ?_
      refine cwp_condB (x46.toList == (y39.extract ((2 : Int).toNat) ((3 : Int).toNat)).toList) (by kernel_rfl) (fun hc47 => ?_) (fun hc47 => ?_)
      · replace hM := ifT hc47 hM
        refine cR ?_
        refine oS [(39, .int .i64 y41), (40, .agg #[.int .i64 y41, .int .i64 0])] rfl ?_
        refine owp_hpD rfl (by kernel_rfl) (hpSt ⟨y40, 0, none⟩ [.int .i64 y41, .int .i64 0] (fun _ => by kernel_rfl) rfl hM ?_)
        intro h48 hM
        refine oS [(3, .int .i64 3)] rfl ?_
        refine oE (cwp_ret (blockE_r (thenE_r ?_)))
        exact q_at (Q := Q .ret) 2 (.pointer (some ⟨y40, 0, none⟩)) (by kernel_rfl) (q_at (Q := Q .ret) 3 (.int .i64 3) (by kernel_rfl) (hKr y40 3 _ _ hM))
      replace hM := ifF hc47 hM
      refine cwp_skip (blockE_n (thenE_n (cwp_region ?_)))
      refine oS [(32, .int .i64 y41), (33, .int .i64 (IntKind.wrap .i64 (y41 + 1))), (4, .int .i64 (IntKind.wrap .i64 (y41 + 1)))] rfl ?_
      refine owp_nil ?_
      exact lwp_at 0 (.string y39) (by kernel_rfl) (lwp_at 2 (.pointer (some ⟨y40, 0, none⟩)) (by kernel_rfl) (lwp_at 4 (.int .i64 (IntKind.wrap .i64 (y41 + 1))) (by kernel_rfl) (ih y39 y40 (IntKind.wrap .i64 (y41 + 1)) _ _ hM)))
    replace hM := ifF hc42 hM
    refine cwp_exit (thenE_x ?_)
    exact q_at (Q := Q (.exit 1)) 2 (.pointer (some ⟨y40, 0, none⟩)) (by kernel_rfl) (hK1 y40 _ _ hM)
def ref21_begin (a1 : ByteArray) (K : Int → Int → Int → Heap → Prop) (h : Heap) : Prop :=
 newB h #[.int .i64 0, .int .i64 0] 36 fun b2 h3 =>
 (0 : Int) < (a1.size : Int) ∧
 if (byteAt a1 0) = 27 then
  if (a1.size : Int) = 1 then
   stN ⟨b2, 0, none⟩ [.int .i64 0, .int .i64 0] 0 h3 fun h9 =>
   ldI h9 .i64 ⟨b2, 0, none⟩ fun x10 =>
   ldI h9 .i64 ⟨b2, 1, none⟩ fun x12 =>
   K x10 x12 0 h9
  else
  (1 : Int) < (a1.size : Int) ∧
  if (byteAt a1 1) = 91 then
   ref21_control a1 (fun x20 x21 x22 h19 =>
    stN ⟨b2, 0, none⟩ [.int .i64 x20, .int .i64 x21] 0 h19 fun h23 =>
    ldI h23 .i64 ⟨b2, 0, none⟩ fun x24 =>
    ldI h23 .i64 ⟨b2, 1, none⟩ fun x26 =>
     K x24 x26 x22 h23) h3
  else
  if (byteAt a1 1) = 79 then
   if (a1.size : Int) < 3 then
    stN ⟨b2, 0, none⟩ [.int .i64 0, .int .i64 0] 0 h3 fun h32 =>
    ldI h32 .i64 ⟨b2, 0, none⟩ fun x33 =>
    ldI h32 .i64 ⟨b2, 1, none⟩ fun x35 =>
    K x33 x35 0 h32
   else
   ∃ k78, ref21_begin_l0
    (fun z58 h59 =>
      stN ⟨z58, 0, none⟩ [.int .i64 0, .int .i64 0] 0 h59 fun h60 =>
      ldI h60 .i64 ⟨z58, 0, none⟩ fun x61 =>
      ldI h60 .i64 ⟨z58, 1, none⟩ fun x63 =>
        K x61 x63 3 h60)
    (fun z68 z69 h70 =>
      ldI h70 .i64 ⟨z68, 0, none⟩ fun x71 =>
      ldI h70 .i64 ⟨z68, 1, none⟩ fun x73 =>
        K x71 x73 z69 h70) k78 a1 b2 16777217 h3
  else
  ref21_meta a1 (fun x80 x81 x82 h79 =>
   stN ⟨b2, 0, none⟩ [.int .i64 x80, .int .i64 x81] 0 h79 fun h83 =>
   ldI h83 .i64 ⟨b2, 0, none⟩ fun x84 =>
   ldI h83 .i64 ⟨b2, 1, none⟩ fun x86 =>
    K x84 x86 x82 h83) h3
 else
 ref21_plain a1 (fun x91 x92 x93 h90 =>
  stN ⟨b2, 0, none⟩ [.int .i64 x91, .int .i64 x92] 0 h90 fun h94 =>
  ldI h94 .i64 ⟨b2, 0, none⟩ fun x95 =>
  ldI h94 .i64 ⟨b2, 1, none⟩ fun x97 =>
   K x95 x97 x93 h94) h3
theorem ref21_begin_ok (a1 : ByteArray) (K : Int → Int → Int → Heap → Prop) (h : Heap) (hM : ref21_begin a1 K h) : CallsH Tryd.prog 29 #[.string a1] (fun v h' => ∃ (r101 : Int) (r102 : Int) (r103 : Int), v = .tuple #[.agg #[.int .i64 r101, .int .i64 r102], .int .i64 r103] ∧ K r101 r102 r103 h') h := by
 unfold ref21_begin at hM
 refine callsH_intro (n := 46) Tryd.func29 rfl rfl (by kernel_rfl) ?_
 refine cR ?_
 refine owp_hpG rfl (by kernel_rfl) (hpNew #[.int .i64 0, .int .i64 0] 36 (fun _ => by kernel_rfl) ?_)
 intro b2 h3 hN4
 replace hM := newB_of hN4 hM
 refine oS [(3, .int .i64 0)] rfl ?_
 refine oE (cwp_seq (cR ?_))
 refine oS [(5, .string a1)] rfl ?_
 have hc5 : 0 ≤ (0 : Int) := by decide
 obtain ⟨hc6, hM⟩ := hM
 refine owp_rdG (.int .u8 (byteAt a1 0)) rfl (by kernel_rfl) (rd_ixStr (P := Tryd.prog) (h := h3) (t := 9) (s := a1) (k := .i64) (i := 0) (by kernel_rfl) hc5 hc6 (by kernel_rfl)) ?_
 refine oS [(7, .bool (!decide ((byteAt a1 0) = 27)))] rfl ?_
 refine oE ?_
 refine cwp_condN ((byteAt a1 0) = 27) (by kernel_rfl) (fun hc7 => ?_) (fun hc7 => ?_)
 · replace hM := ifT hc7 hM
   refine cwp_skip (thenE_n (cwp_seq (cR ?_)))
   refine oS [(12, .string a1), (13, .int .i64 (a1.size : Int)), (14, .bool (decide ((a1.size : Int) = 1)))] rfl ?_
   refine oE ?_
   refine cwp_condD ((a1.size : Int) = 1) (by kernel_rfl) (fun hc8 => ?_) (fun hc8 => ?_)
   · replace hM := ifT hc8 hM
     refine cR ?_
     refine oS [(15, .agg #[.int .i64 0, .int .i64 0])] rfl ?_
     refine owp_hpD rfl (by kernel_rfl) (hpSt ⟨b2, 0, none⟩ [.int .i64 0, .int .i64 0] (fun _ => by kernel_rfl) rfl hM ?_)
     intro h9 hM
     refine oS [(3, .int .i64 0)] rfl ?_
     refine oE (cwp_ret (thenE_r ?_))
     obtain ⟨x10, hc11, hM⟩ := hM
     obtain ⟨x12, hc13, hM⟩ := hM
     exact ret_ (.tuple #[.agg #[.int .i64 x10, .int .i64 x12], .int .i64 0]) (Eq.trans (b := (cellH h9 ⟨b2, 0, none⟩).bind fun v14 => (cellH h9 ⟨b2, 1, none⟩).bind fun v15 => some (.tuple #[.agg #[v14, v15], .int .i64 0])) (by kernel_rfl) ((bindE hc11 _).trans (bindE hc13 _))) ⟨_, _, _, rfl, hM⟩
   replace hM := ifF hc8 hM
   refine cwp_skip (thenE_n (cwp_seq (cR ?_)))
   refine oS [(16, .string a1)] rfl ?_
   have hc16 : 0 ≤ (1 : Int) := by decide
   obtain ⟨hc17, hM⟩ := hM
   refine owp_rdG (.int .u8 (byteAt a1 1)) rfl (by kernel_rfl) (rd_ixStr (P := Tryd.prog) (h := h3) (t := 9) (s := a1) (k := .i64) (i := 1) (by kernel_rfl) hc16 hc17 (by kernel_rfl)) ?_
   refine oE (cwp_block (cR ?_))
   refine oS [(19, .bool (decide ((byteAt a1 1) = 91))), (18, .bool (decide ((byteAt a1 1) = 91)))] rfl ?_
   refine oE ?_
   refine cwp_condD ((byteAt a1 1) = 91) (by kernel_rfl) (fun hc18 => ?_) (fun hc18 => ?_)
   · replace hM := ifT hc18 hM
     refine cR ?_
     refine oS [(20, .string a1)] rfl ?_
     refine owp_hpG rfl (by kernel_rfl) (hpCallE 50 #[.string a1] (by kernel_rfl) (ref21_control_ok a1 _ h3 hM) ?_)
     rintro _ h19 ⟨x20, x21, x22, rfl, hM⟩
     refine oS [(22, .agg #[.int .i64 x20, .int .i64 x21]), (23, .int .i64 x22)] rfl ?_
     refine owp_hpD rfl (by kernel_rfl) (hpSt ⟨b2, 0, none⟩ [.int .i64 x20, .int .i64 x21] (fun _ => by kernel_rfl) rfl hM ?_)
     intro h23 hM
     refine oS [(3, .int .i64 x22)] rfl ?_
     refine oE (cwp_ret (blockE_r (thenE_r ?_)))
     obtain ⟨x24, hc25, hM⟩ := hM
     obtain ⟨x26, hc27, hM⟩ := hM
     exact ret_ (.tuple #[.agg #[.int .i64 x24, .int .i64 x26], .int .i64 x22]) (Eq.trans (b := (cellH h23 ⟨b2, 0, none⟩).bind fun v28 => (cellH h23 ⟨b2, 1, none⟩).bind fun v29 => some (.tuple #[.agg #[v28, v29], .int .i64 x22])) (by kernel_rfl) ((bindE hc25 _).trans (bindE hc27 _))) ⟨_, _, _, rfl, hM⟩
   replace hM := ifF hc18 hM
   refine cR ?_
   refine oS [(25, .bool (decide ((byteAt a1 1) = 79))), (24, .bool (decide ((byteAt a1 1) = 79)))] rfl ?_
   refine oE ?_
   refine cwp_condD ((byteAt a1 1) = 79) (by kernel_rfl) (fun hc30 => ?_) (fun hc30 => ?_)
   · replace hM := ifT hc30 hM
     refine cwp_seq (cR ?_)
     refine oS [(26, .string a1), (27, .int .i64 (a1.size : Int)), (28, .bool (decide ((a1.size : Int) < 3)))] rfl ?_
     refine oE ?_
     refine cwp_condD ((a1.size : Int) < 3) (by kernel_rfl) (fun hc31 => ?_) (fun hc31 => ?_)
     · replace hM := ifT hc31 hM
       refine cR ?_
       refine oS [(29, .agg #[.int .i64 0, .int .i64 0])] rfl ?_
       refine owp_hpD rfl (by kernel_rfl) (hpSt ⟨b2, 0, none⟩ [.int .i64 0, .int .i64 0] (fun _ => by kernel_rfl) rfl hM ?_)
       intro h32 hM
       refine oS [(3, .int .i64 0)] rfl ?_
       refine oE (cwp_ret (thenE_r (blockE_r (thenE_r ?_))))
       obtain ⟨x33, hc34, hM⟩ := hM
       obtain ⟨x35, hc36, hM⟩ := hM
       exact ret_ (.tuple #[.agg #[.int .i64 x33, .int .i64 x35], .int .i64 0]) (Eq.trans (b := (cellH h32 ⟨b2, 0, none⟩).bind fun v37 => (cellH h32 ⟨b2, 1, none⟩).bind fun v38 => some (.tuple #[.agg #[v37, v38], .int .i64 0])) (by kernel_rfl) ((bindE hc34 _).trans (bindE hc36 _))) ⟨_, _, _, rfl, hM⟩
     replace hM := ifF hc31 hM
     refine cwp_skip (thenE_n (cwp_seq (cR ?_)))
     refine oS [(4, .int .i64 16777217)] rfl ?_
     refine oE (cwp_block ?_)
     obtain ⟨k_, hM⟩ := hM
     refine cwp_loop k_ (lwp_of_part (fn := Tryd.f29) (p := [1, 1, 1, 0, 1, 0, 1, 1, 1, 0, 1, 0, 1, 0, 0]) (by kernel_rfl) (lwp_at 0 (.string a1) (by kernel_rfl) (lwp_at 2 (.pointer (some ⟨b2, 0, none⟩)) (by kernel_rfl) (lwp_at 4 (.int .i64 16777217) (by kernel_rfl) (ref21_begin_l0_ok _ ?_ _ ?_ k_ a1 b2 16777217 _ _ hM)))))
     · intro z58 b67 h59 hM
       refine blockE_h (thenE_n (cR ?_))
       refine oS [(41, .agg #[.int .i64 0, .int .i64 0])] rfl ?_
       refine owp_hpD rfl (by kernel_rfl) (hpSt ⟨z58, 0, none⟩ [.int .i64 0, .int .i64 0] (fun _ => by kernel_rfl) rfl hM ?_)
       intro h60 hM
       refine oS [(3, .int .i64 3)] rfl ?_
       refine oE (cwp_ret (blockE_r (thenE_r ?_)))
       obtain ⟨x61, hc62, hM⟩ := hM
       obtain ⟨x63, hc64, hM⟩ := hM
       exact ret_ (.tuple #[.agg #[.int .i64 x61, .int .i64 x63], .int .i64 3]) (Eq.trans (b := (cellH h60 ⟨z58, 0, none⟩).bind fun v65 => (cellH h60 ⟨z58, 1, none⟩).bind fun v66 => some (.tuple #[.agg #[v65, v66], .int .i64 3])) (by kernel_rfl) ((bindE hc62 _).trans (bindE hc64 _))) ⟨_, _, _, rfl, hM⟩
     · intro z68 z69 b77 h70 hM
       refine blockE_r (thenE_r (blockE_r (thenE_r ?_)))
       obtain ⟨x71, hc72, hM⟩ := hM
       obtain ⟨x73, hc74, hM⟩ := hM
       exact ret_ (.tuple #[.agg #[.int .i64 x71, .int .i64 x73], .int .i64 z69]) (Eq.trans (b := (cellH h70 ⟨z68, 0, none⟩).bind fun v75 => (cellH h70 ⟨z68, 1, none⟩).bind fun v76 => some (.tuple #[.agg #[v75, v76], .int .i64 z69])) (by kernel_rfl) ((bindE hc72 _).trans (bindE hc74 _))) ⟨_, _, _, rfl, hM⟩
   replace hM := ifF hc30 hM
   refine cwp_skip (blockE_n (thenE_n (cR ?_)))
   refine oS [(42, .string a1)] rfl ?_
   refine owp_hpG rfl (by kernel_rfl) (hpCallE 26 #[.string a1] (by kernel_rfl) (ref21_meta_ok a1 _ h3 hM) ?_)
   rintro _ h79 ⟨x80, x81, x82, rfl, hM⟩
   refine oS [(44, .agg #[.int .i64 x80, .int .i64 x81]), (45, .int .i64 x82)] rfl ?_
   refine owp_hpD rfl (by kernel_rfl) (hpSt ⟨b2, 0, none⟩ [.int .i64 x80, .int .i64 x81] (fun _ => by kernel_rfl) rfl hM ?_)
   intro h83 hM
   refine oS [(3, .int .i64 x82)] rfl ?_
   refine oE (cwp_ret ?_)
   obtain ⟨x84, hc85, hM⟩ := hM
   obtain ⟨x86, hc87, hM⟩ := hM
   exact ret_ (.tuple #[.agg #[.int .i64 x84, .int .i64 x86], .int .i64 x82]) (Eq.trans (b := (cellH h83 ⟨b2, 0, none⟩).bind fun v88 => (cellH h83 ⟨b2, 1, none⟩).bind fun v89 => some (.tuple #[.agg #[v88, v89], .int .i64 x82])) (by kernel_rfl) ((bindE hc85 _).trans (bindE hc87 _))) ⟨_, _, _, rfl, hM⟩
 replace hM := ifF hc7 hM
 refine cR ?_
 refine oS [(8, .string a1)] rfl ?_
 refine owp_hpG rfl (by kernel_rfl) (hpCallE 27 #[.string a1] (by kernel_rfl) (ref21_plain_ok a1 _ h3 hM) ?_)
 rintro _ h90 ⟨x91, x92, x93, rfl, hM⟩
 refine oS [(10, .agg #[.int .i64 x91, .int .i64 x92]), (11, .int .i64 x93)] rfl ?_
 refine owp_hpD rfl (by kernel_rfl) (hpSt ⟨b2, 0, none⟩ [.int .i64 x91, .int .i64 x92] (fun _ => by kernel_rfl) rfl hM ?_)
 intro h94 hM
 refine oS [(3, .int .i64 x93)] rfl ?_
 refine oE (cwp_ret (thenE_r ?_))
 obtain ⟨x95, hc96, hM⟩ := hM
 obtain ⟨x97, hc98, hM⟩ := hM
 exact ret_ (.tuple #[.agg #[.int .i64 x95, .int .i64 x97], .int .i64 x93]) (Eq.trans (b := (cellH h94 ⟨b2, 0, none⟩).bind fun v99 => (cellH h94 ⟨b2, 1, none⟩).bind fun v100 => some (.tuple #[.agg #[v99, v100], .int .i64 x93])) (by kernel_rfl) ((bindE hc96 _).trans (bindE hc98 _))) ⟨_, _, _, rfl, hM⟩
/- mullion/mullionref21.Feed -/
def ref21_Feed_l0 (K0 : Nat → Option Addr → Nat → Nat → ByteArray → Heap → Prop) : Nat → Nat → Option Addr → Nat → Nat → ByteArray → Heap → Prop
  | 0, _, _, _, _, _, _ => False
  | k + 1, y12, y13, y13n, y13c, y14, h =>
  if (!(y14.toList == (⟨#[]⟩ : ByteArray).toList)) = true then
   ref21_begin y14 (fun x17 x18 x19 h16 =>
    if x19 = 0 then
     gap h16 fun h23 =>
     K0 y12 y13 y13n y13c y14 h23
    else
    if (!((x17 == 0) && (x18 == 0))) = true then
     gap h16 fun h36 =>
     appH h36 36 16 [.int .i64 0, .int .i64 0] y13 y13n y13c [.int .i64 x17, .int .i64 x18] 1 fun s40 s40c h39 =>
     0 ≤ x19 ∧
     x19 ≤ (y14.size : Int) ∧
     ref21_Feed_l0 K0 k y12 s40 (y13n + 1) s40c (y14.extract x19.toNat y14.size) h39
    else
    0 ≤ x19 ∧
    x19 ≤ (y14.size : Int) ∧
    gap h16 fun h23 =>
     ref21_Feed_l0 K0 k y12 y13 y13n y13c (y14.extract x19.toNat y14.size) h23) h
  else
  K0 y12 y13 y13n y13c y14 h
theorem ref21_Feed_l0_ok {Q : Exit → Env → Heap → Prop} (K0 : Nat → Option Addr → Nat → Nat → ByteArray → Heap → Prop) (hK0 : ∀ (z48 : Nat) (z49 : Option Addr) (z49n : Nat) (z49c : Nat) (z50 : ByteArray) (b : Env) (h : Heap), K0 z48 z49 z49n z49c z50 h → Q (.exit 0) (upd (upd (upd b 4 (.pointer (some ⟨z48, 0, none⟩))) 6 (.slice z49 z49n z49c)) 7 (.string z50)) h) : ∀ (k : Nat) (y12 : Nat) (y13 : Option Addr) (y13n : Nat) (y13c : Nat) (y14 : ByteArray) (b : Env) (h : Heap) (hM : ref21_Feed_l0 K0 k y12 y13 y13n y13c y14 h), lwp Tryd.prog (partC Tryd.f13 [1, 1, 1, 0, 0, 0]) 36 Q k (upd (upd (upd b 4 (.pointer (some ⟨y12, 0, none⟩))) 6 (.slice y13 y13n y13c)) 7 (.string y14)) h := by
  intro k
  induction k with
  | zero => intro y12 y13 y13n y13c y14 b h hM; exact (show False from hM).elim
  | succ k ih =>
    intro y12 y13 y13n y13c y14 b h hM
    unfold ref21_Feed_l0 at hM
    refine lwp_succ (cwp_part rfl ?_)
    refine cwp_seq (cR ?_)
    refine oS [(14, .string y14), (15, .bool (!(y14.toList == (⟨#[]⟩ : ByteArray).toList)))] rfl ?_
    refine oE ?_
    refine cwp_condB (!(y14.toList == (⟨#[]⟩ : ByteArray).toList)) (by kernel_rfl) (fun hc15 => ?_) (fun hc15 => ?_)
    · replace hM := ifT hc15 hM
      refine cwp_skip (thenE_n (cwp_block (cR ?_)))
      refine oS [(17, .string y14)] rfl ?_
      refine owp_hpG rfl (by kernel_rfl) (hpCallE 29 #[.string y14] (by kernel_rfl) (ref21_begin_ok y14 _ h hM) ?_)
      rintro _ h16 ⟨x17, x18, x19, rfl, hM⟩
      refine oS [(16, .tuple #[.agg #[.int .i64 x17, .int .i64 x18], .int .i64 x19]), (19, .agg #[.int .i64 x17, .int .i64 x18]), (20, .int .i64 x19)] rfl ?_
      refine owp_hpG rfl (by kernel_rfl) (hpNew #[.int .i64 0, .int .i64 0] 36 (fun _ => by kernel_rfl) ?_)
      intro b20 h21 hN22
      refine owp_hpD rfl (by kernel_rfl) (hpStB b20 0 [.int .i64 x17, .int .i64 x18] (New.blk hN22) (fun _ => by kernel_rfl) rfl rfl ?_)
      intro h23 hP24
      have f25 : Blk h23 b20 #[.int .i64 x17, .int .i64 x18] 36 := hP24.blk
      refine oS [(9, .int .i64 x19)] rfl ?_
      refine oE (cwp_seq (cR ?_))
      refine oS [(21, .int .i64 x19), (22, .bool (decide (x19 = 0)))] rfl ?_
      refine oE ?_
      refine cwp_condD (x19 = 0) (by kernel_rfl) (fun hc26 => ?_) (fun hc26 => ?_)
      · replace hM := ifT hc26 hM
        refine cwp_exit (thenE_x (blockE_x rfl ?_))
        replace hM := hM _ (Put.ext hP24 (New.ext hN22) (New.ge hN22 (Ext.refl _)))
        exact q_at (Q := Q (.exit 0)) 4 (.pointer (some ⟨y12, 0, none⟩)) (by kernel_rfl) (q_at (Q := Q (.exit 0)) 6 (.slice y13 y13n y13c) (by kernel_rfl) (q_at (Q := Q (.exit 0)) 7 (.string y14) (by kernel_rfl) (hK0 y12 y13 y13n y13c y14 _ _ hM)))
      replace hM := ifF hc26 hM
      refine cwp_skip (thenE_n (cwp_seq (cR ?_)))
      refine owp_rdG (.agg #[.int .i64 x17, .int .i64 x18]) rfl (by kernel_rfl) (Eq.trans (b := (cellH h23 ⟨b20, 0, none⟩).bind fun v30 => (cellH h23 ⟨b20, 1, none⟩).bind fun v31 => some (.value (.agg #[v30, v31]))) (by kernel_rfl) ((bindE (Blk.cell f25 0 (by kernel_rfl)) _).trans (bindE (Blk.cell f25 1 (by kernel_rfl)) _))) ?_
      refine oS [(24, .agg #[.int .i64 0, .int .i64 0])] rfl ?_
      refine owp_rdG (.bool (!((x17 == 0) && (x18 == 0)))) rfl (by kernel_rfl) ((by kernel_rfl : _ = rd Tryd.prog (toVal ((Op.equal 36 (.agg #[.int .i64 x17, .int .i64 x18]) (.agg #[.int .i64 0, .int .i64 0])).bind fun v_ => Sem.pure (.bool (!v_)))) h23).trans (rd_neB (eq_T36 9998))) ?_
      refine oE ?_
      refine cwp_condB (!((x17 == 0) && (x18 == 0))) (by kernel_rfl) (fun hc32 => ?_) (fun hc32 => ?_)
      · replace hM := ifT hc32 hM
        refine cwp_region ?_
        refine oS [(26, .slice y13 y13n y13c)] rfl ?_
        refine owp_rdG (.agg #[.int .i64 x17, .int .i64 x18]) rfl (by kernel_rfl) (Eq.trans (b := (cellH h23 ⟨b20, 0, none⟩).bind fun v33 => (cellH h23 ⟨b20, 1, none⟩).bind fun v34 => some (.value (.agg #[v33, v34]))) (by kernel_rfl) ((bindE (Blk.cell f25 0 (by kernel_rfl)) _).trans (bindE (Blk.cell f25 1 (by kernel_rfl)) _))) ?_
        refine owp_hpG rfl (by kernel_rfl) (hpNewS #[.int .i64 x17, .int .i64 x18] 36 1 (fun _ => by kernel_rfl) ?_)
        intro b35 h36 hN37
        have f38 := Blk.ext f25 (New.ext hN37)
        replace hM := hM _ (Ext.trans (Put.ext hP24 (New.ext hN22) (New.ge hN22 (Ext.refl _))) (New.ext hN37))
        refine owp_hpG rfl (by kernel_rfl) (hpApp (t := 27) (ty := 27) (et := 36) (zv := .agg #[.int .i64 0, .int .i64 0]) (sz := 2) (by_ := 16) (base := y13) (n' := y13n) (c := y13c) (xb := (some ⟨b35, 0, none⟩)) (m := 1) (xc := 1) (new := [.int .i64 x17, .int .i64 x18]) (fun _ => by kernel_rfl) (by kernel_rfl) (by kernel_rfl) [.int .i64 0, .int .i64 0] rfl rfl (by decide) rfl rfl ⟨Blk.cell (New.blk hN37) 0 (by kernel_rfl), Blk.cell (New.blk hN37) 1 (by kernel_rfl), trivial⟩ hM ?_)
        intro s40 s40c h39 hM
        refine oS [(6, .slice s40 (y13n + 1) s40c)] rfl ?_
        refine oE (cwp_region ?_)
        refine oS [(30, .string y14), (31, .int .i64 x19)] rfl ?_
        obtain ⟨hc41, hM⟩ := hM
        obtain ⟨hc42, hM⟩ := hM
        refine owp_rdG (.string (y14.extract x19.toNat y14.size)) rfl (by kernel_rfl) (rd_slLo (P := Tryd.prog) (h := h39) (t := 9) (s := y14) (k := .i64) (i := x19) (by kernel_rfl) hc41 hc42 (by kernel_rfl)) ?_
        refine oS [(7, .string (y14.extract x19.toNat y14.size))] rfl ?_
        refine owp_nil (blockE_n ?_)
        exact lwp_at 4 (.pointer (some ⟨y12, 0, none⟩)) (by kernel_rfl) (lwp_at 6 (.slice s40 (y13n + 1) s40c) (by kernel_rfl) (lwp_at 7 (.string (y14.extract x19.toNat y14.size)) (by kernel_rfl) (ih y12 s40 (y13n + 1) s40c (y14.extract x19.toNat y14.size) _ _ hM)))
      replace hM := ifF hc32 hM
      refine cwp_skip (thenE_n (cwp_region ?_))
      refine oS [(30, .string y14), (31, .int .i64 x19)] rfl ?_
      obtain ⟨hc43, hM⟩ := hM
      obtain ⟨hc44, hM⟩ := hM
      refine owp_rdG (.string (y14.extract x19.toNat y14.size)) rfl (by kernel_rfl) (rd_slLo (P := Tryd.prog) (h := h23) (t := 9) (s := y14) (k := .i64) (i := x19) (by kernel_rfl) hc43 hc44 (by kernel_rfl)) ?_
      refine oS [(7, .string (y14.extract x19.toNat y14.size))] rfl ?_
      refine owp_nil (blockE_n ?_)
      replace hM := hM _ (Put.ext hP24 (New.ext hN22) (New.ge hN22 (Ext.refl _)))
      exact lwp_at 4 (.pointer (some ⟨y12, 0, none⟩)) (by kernel_rfl) (lwp_at 6 (.slice y13 y13n y13c) (by kernel_rfl) (lwp_at 7 (.string (y14.extract x19.toNat y14.size)) (by kernel_rfl) (ih y12 y13 y13n y13c (y14.extract x19.toNat y14.size) _ _ hM)))
    replace hM := ifF hc15 hM
    refine cwp_exit (thenE_x ?_)
    exact q_at (Q := Q (.exit 0)) 4 (.pointer (some ⟨y12, 0, none⟩)) (by kernel_rfl) (q_at (Q := Q (.exit 0)) 6 (.slice y13 y13n y13c) (by kernel_rfl) (q_at (Q := Q (.exit 0)) 7 (.string y14) (by kernel_rfl) (hK0 y12 y13 y13n y13c y14 _ _ hM)))
def ref21_Feed (a1 : ByteArray) (a2 : ByteArray) (K : ByteArray → Option Addr → Nat → Nat → Heap → Prop) (h : Heap) : Prop :=
 gap h fun h4 =>
 newB h4 #[.string (⟨#[]⟩ : ByteArray)] 26 fun b6 h7 =>
 a1.size + a2.size ≤ 9223372036854775807 ∧
 ∃ k60, ref21_Feed_l0
  (fun z51 z52 z52n z52c z53 h54 =>
    stN ⟨z51, 0, none⟩ [.string z53] 0 h54 fun h55 =>
    ldS h55 ⟨z51, 0, none⟩ fun x56 =>
      K x56 z52 z52n z52c h55) k60 b6 none 0 0 (a1 ++ a2) h7
theorem ref21_Feed_ok (a1 : ByteArray) (a2 : ByteArray) (K : ByteArray → Option Addr → Nat → Nat → Heap → Prop) (h : Heap) (hM : ref21_Feed a1 a2 K h) : CallsH Tryd.prog 13 #[.agg #[.string a1], .string a2] (fun v h' => ∃ (r61 : ByteArray) (r62 : Option Addr) (r62n : Nat) (r62c : Nat), v = .tuple #[.agg #[.string r61], .slice r62 r62n r62c] ∧ K r61 r62 r62n r62c h') h := by
 unfold ref21_Feed at hM
 refine callsH_intro (n := 36) Tryd.func13 rfl rfl (by kernel_rfl) ?_
 refine cR ?_
 refine owp_hpG rfl (by kernel_rfl) (hpNew #[.string a1] 26 (fun _ => by kernel_rfl) ?_)
 intro b3 h4 hN5
 replace hM := hM _ (New.ext hN5)
 refine owp_hpG rfl (by kernel_rfl) (hpNew #[.string (⟨#[]⟩ : ByteArray)] 26 (fun _ => by kernel_rfl) ?_)
 intro b6 h7 hN8
 replace hM := newB_of hN8 hM
 have f9 := Blk.ext (New.blk hN5) (New.ext hN8)
 refine oS [(5, .slice none 0 0)] rfl ?_
 refine oE (cR ?_)
 refine oS [(6, .slice none 0 0)] rfl ?_
 refine oE (cR ?_)
 refine oS [(10, .pointer (some ⟨b3, 0, none⟩))] rfl ?_
 refine owp_rdG (.string a1) rfl (by kernel_rfl) (Eq.trans (b := (cellH h7 ⟨b3, 0, none⟩).bind fun v10 => some (.value v10)) (by kernel_rfl) (bindE (Blk.cell f9 0 (by kernel_rfl)) _)) ?_
 refine oS [(12, .string a2)] rfl ?_
 obtain ⟨hc11, hM⟩ := hM
 refine owp_rdG (.string (a1 ++ a2)) rfl (by kernel_rfl) (rd_cat (P := Tryd.prog) (h := h7) (x := a1) (y := a2) hc11 (by kernel_rfl)) ?_
 refine oS [(7, .string (a1 ++ a2))] rfl ?_
 refine oE (cwp_seq (cwp_block ?_))
 obtain ⟨k_, hM⟩ := hM
 refine cwp_loop k_ (lwp_of_part (fn := Tryd.f13) (p := [1, 1, 1, 0, 0, 0]) (by kernel_rfl) (lwp_at 4 (.pointer (some ⟨b6, 0, none⟩)) (by kernel_rfl) (lwp_at 6 (.slice none 0 0) (by kernel_rfl) (lwp_at 7 (.string (a1 ++ a2)) (by kernel_rfl) (ref21_Feed_l0_ok _ ?_ k_ b6 none 0 0 (a1 ++ a2) _ _ hM)))))
 · intro z51 z52 z52n z52c z53 b59 h54 hM
   refine blockE_h (thenE_n (cR ?_))
   refine oS [(33, .string z53), (34, .agg #[.string z53]), (35, .slice z52 z52n z52c)] rfl ?_
   refine owp_hpD rfl (by kernel_rfl) (hpSt ⟨z51, 0, none⟩ [.string z53] (fun _ => by kernel_rfl) rfl hM ?_)
   intro h55 hM
   refine oS [(5, .slice z52 z52n z52c)] rfl ?_
   refine oE (cwp_ret ?_)
   obtain ⟨x56, hc57, hM⟩ := hM
   exact ret_ (.tuple #[.agg #[.string x56], .slice z52 z52n z52c]) (Eq.trans (b := (cellH h55 ⟨z51, 0, none⟩).bind fun v58 => some (.tuple #[.agg #[v58], .slice z52 z52n z52c])) (by kernel_rfl) (bindE hc57 _)) ⟨_, _, _, _, rfl, hM⟩
end Go.Proofs.YtkbpnmgkdodcmaaDoor.M
