import Derived.Test.YthjdnhhifjpidaaDoorU21
set_option linter.unusedVariables false
set_option linter.unusedSimpArgs false
set_option maxRecDepth 100000
namespace Go.Proofs.YthjdnhhifjpidaaDoor.M
open Go Go.Hp

/-! ### Tab stops are set and cleared -/
theorem SlO.all {α : Type} {f : α → List Value} {sz : Nat} {t : TypeId} {a : Option Addr} {n c : Nat} {ks ks' : List α} {o pre l : Blks} {h0 : Base} {h : Heap} {K : Heap → Prop} (hf : ∀ k, (f k).length = sz) (hs : SlO f sz t a n c ks o) (ho : Own h0 h (pre ++ (o ++ l))) (hl : ks'.length = ks.length) {p : Addr} (hp : a = some p)
    (hK : ∀ h' o', Own h0 h' (pre ++ (o' ++ l)) → SlO f sz t a n c ks' o' → K h') : stN p (ks'.flatMap f) 0 h K := by
  obtain ⟨hn, ⟨_, h2, _, h4⟩ | ⟨b, cs, rest, rfl, h2, hcs, hr, hle⟩⟩ := hs
  · rw [h2] at hp; cases hp
  · obtain rfl : p = ⟨b, 0, none⟩ := Option.some.inj (hp.symm.trans h2)
    have hfl := flat_len f hf ks
    have hfl' := flat_len f hf ks'
    have hcl : cs.size = (ks.flatMap f).length + rest.length := by rw [← Array.length_toList, hcs, List.length_append]
    have hsame : (ks'.flatMap f).length = (ks.flatMap f).length := by rw [hfl, hfl', hl]
    refine stN_blk (Own.mid (x := (b, cs, t)) (by simpa using ho)).1 (show 0 + 0 + (ks'.flatMap f).length ≤ cs.size by omega) fun h1 hp1 => ?_
    refine hK h1 [(b, setL cs (0 + 0) (ks'.flatMap f), t)] (Own.putAt (l := pre) (l2 := l) (by simpa using ho) hp1) ⟨by omega, .inr ⟨b, _, rest, rfl, h2, ?_, hr, hle⟩⟩
    rw [Nat.add_zero, setL_toList _ _ _ (by omega), hcs, List.take_zero, List.nil_append, Nat.zero_add, hsame, List.drop_left]
def setTab (S : Scr) (x : Int) (b : Bool) : Scr := { S with tabs := S.tabs.set x.toNat b }
theorem Ok.setTab {S : Scr} (o : Ok S) (x : Int) (b : Bool) : Ok (setTab S x b) :=
  ⟨⟨o.d.w0, o.d.w1, o.d.h0, o.d.h1, o.d.m0, o.d.m1, o.d.past, o.d.main, o.d.other⟩, ⟨o.c.p, o.c.t0, o.c.tb, o.c.bh, by show ((S.tabs.set x.toNat b).length : Int) = S.w; rw [List.length_set]; exact o.c.tabs, o.c.gath, o.c.ans, o.c.hv0, o.c.hv1, o.c.km, o.c.ko⟩⟩
theorem Rep.tabset {h0 : Base} {h : Heap} {s : Nat} {S : Scr} {K : Heap → Prop} {b : Bool} (hs : Rep h0 h s S) (ok : Ok S)
    (hk : ∀ h1, Rep h0 h1 s (setTab S S.pl.x b) → K h1) : ldL h ⟨s, 21, none⟩ fun x28 x28n x28c => ldI h .i64 ⟨s, 9, none⟩ fun x32 => nz x28 fun p38 => 0 ≤ x32 ∧ x32 < (x28n : Int) ∧ stN (p38.add ((x32).toNat * 1)) [.bool b] 0 h K := by
  obtain ⟨A, oM, oO, oP, oT, oG, oK, oL, ho, hp⟩ := hs
  have hl := hp.4.1
  have ht := ok.c.tabs
  have x0 := ok.c.p.x0
  have x1 := ok.c.p.x1
  refine ldL0 ho rfl ?_
  refine ldI0 ho rfl ?_
  have hoA : Own h0 h (((s, scrC S A, 69) :: (oM ++ (oO ++ oP))) ++ (oT ++ (oG ++ (oK ++ oL)))) := by simpa using ho
  obtain ⟨p, hpp, d⟩ := SlO.get tf_len hp.4 hoA S.pl.x.toNat false (by omega)
  rw [hpp]
  refine nz_i ⟨x0, by show S.pl.x < _; omega, ?_⟩
  refine SlO.set tf_len hp.4 hoA S.pl.x.toNat b (by omega) hpp fun h2 o2 ho2 hs2 => ?_
  have ho2 : Own h0 h2 ((s, scrC S A, 69) :: (oM ++ (oO ++ (oP ++ (o2 ++ (oG ++ (oK ++ oL))))))) := by simpa using ho2
  have ho2 := own_cs (c' := scrC (setTab S S.pl.x b) A) ho2 (by kernel_rfl)
  exact hk h2 ⟨A, oM, oO, oP, o2, oG, oK, oL, ho2, hp.1, hp.2, hp.3, hs2, hp.5, hp.6, hp.7⟩
def noTabs (S : Scr) : Scr := { S with tabs := List.replicate S.tabs.length false }
theorem Ok.noTabs {S : Scr} (o : Ok S) : Ok (noTabs S) :=
  ⟨⟨o.d.w0, o.d.w1, o.d.h0, o.d.h1, o.d.m0, o.d.m1, o.d.past, o.d.main, o.d.other⟩, ⟨o.c.p, o.c.t0, o.c.tb, o.c.bh, by show ((List.replicate S.tabs.length false).length : Int) = S.w; rw [List.length_replicate]; exact o.c.tabs, o.c.gath, o.c.ans, o.c.hv0, o.c.hv1, o.c.km, o.c.ko⟩⟩
theorem Rep.tabclear {h0 : Base} {h : Heap} {s : Nat} {S : Scr} {K : Heap → Prop} (hs : Rep h0 h s S)
    (hk : ∀ h1, Rep h0 h1 s (noTabs S) → K h1) : ldL h ⟨s, 21, none⟩ fun x42 x42n x42c => clM h [.bool false] x42 x42n K := by
  obtain ⟨A, oM, oO, oP, oT, oG, oK, oL, ho, hp⟩ := hs
  have hl := hp.4.1
  refine ldL0 ho rfl ?_
  have hoA : Own h0 h (((s, scrC S A, 69) :: (oM ++ (oO ++ oP))) ++ (oT ++ (oG ++ (oK ++ oL)))) := by simpa using ho
  cases ha : A.t with
  | none =>
    have e : S.tabs = [] := by
      obtain ⟨_, ⟨_, _, _, e4⟩ | ⟨_, _, _, _, e2, _⟩⟩ := hp.4
      · exact e4
      · rw [ha] at e2; cases e2
    have : noTabs S = S := by
      have : List.replicate S.tabs.length false = S.tabs := by rw [e]; rfl
      show ({ S with tabs := List.replicate S.tabs.length false } : Scr) = S
      rw [this]
    rw [this] at hk
    exact hk h ⟨A, oM, oO, oP, oT, oG, oK, oL, ho, hp⟩
  | some p =>
    show stN p (zeros [.bool false] A.tn) 0 h K
    rw [show zeros [Value.bool false] A.tn = (List.replicate S.tabs.length false).flatMap tf by rw [rep_flat, hl]]
    refine SlO.all tf_len hp.4 hoA (by simp) ha fun h2 o2 ho2 hs2 => ?_
    have ho2 : Own h0 h2 ((s, scrC S A, 69) :: (oM ++ (oO ++ (oP ++ (o2 ++ (oG ++ (oK ++ oL))))))) := by simpa using ho2
    have ho2 := own_cs (c' := scrC (noTabs S) A) ho2 (by kernel_rfl)
    exact hk h2 ⟨A, oM, oO, oP, o2, oG, oK, oL, ho2, hp.1, hp.2, hp.3, hs2, hp.5, hp.6, hp.7⟩

/-! ### What is left of the control sequences -/
def repL : Nat → Scr → Scr
  | 0, S => S
  | q + 1, S => if S.last = 0 then S else repL q (writeV S S.last)
theorem Ok.repL : ∀ (q : Nat) (S : Scr), Ok S → Ok (repL q S)
  | 0, S, o => o
  | q + 1, S, o => by
    unfold M.repL
    split
    · exact o
    · exact Ok.repL q _ (o.write _)
theorem others_l0 {h0 : Base} {s : Nat} {n : Int} {K : Heap → Prop} (hn : n ≤ 100000) : ∀ (q : Nat) (S : Scr) (h : Heap) (i : Int), Rep h0 h s S → Ok S → 0 ≤ i → (n - i).toNat = q → (∀ h1, Rep h0 h1 s (repL q S) → K h1) → vt_Screen_others_l0 K (q + 1) (some ⟨s, 0, none⟩) n i h := by
  intro q
  induction q with
  | zero =>
    intro S h i hs o i0 hq hk
    unfold vt_Screen_others_l0
    rw [if_neg (by omega)]
    exact hk h hs
  | succ q ih =>
    intro S h i hs o i0 hq hk
    unfold vt_Screen_others_l0
    unfold repL at hk
    rw [if_pos (by omega)]
    refine nz_i ?_
    simp only [add0, Nat.zero_add]
    refine hs.ldi (v := S.last) (fun A => rfl) ?_
    by_cases h1 : S.last = 0
    · rw [if_pos h1] at hk ⊢
      exact hk h hs
    rw [if_neg h1] at hk ⊢
    refine hs.ldi (v := S.last) (fun A => rfl) ?_
    refine write_sp hs o fun h2 hs2 => ?_
    rw [wrap64 (by omega) (by omega)]
    exact ih _ h2 (i + 1) hs2 (o.write _) (by omega) (by omega) hk
def modesL (on : Bool) : List Int → Scr → Scr
  | [], S => S
  | m :: l, S => modesL on l (if m = 4 then { S with insert := on } else if m = 20 then { S with newline := on } else S)
theorem Ok.modesL (on : Bool) : ∀ (l : List Int) (S : Scr), Ok S → Ok (modesL on l S)
  | [], S, o => o
  | m :: l, S, o => by
    unfold M.modesL
    refine Ok.modesL on l _ ?_
    split
    · exact ⟨⟨o.d.w0, o.d.w1, o.d.h0, o.d.h1, o.d.m0, o.d.m1, o.d.past, o.d.main, o.d.other⟩, ⟨o.c.p, o.c.t0, o.c.tb, o.c.bh, o.c.tabs, o.c.gath, o.c.ans, o.c.hv0, o.c.hv1, o.c.km, o.c.ko⟩⟩
    split
    · exact ⟨⟨o.d.w0, o.d.w1, o.d.h0, o.d.h1, o.d.m0, o.d.m1, o.d.past, o.d.main, o.d.other⟩, ⟨o.c.p, o.c.t0, o.c.tb, o.c.bh, o.c.tabs, o.c.gath, o.c.ans, o.c.hv0, o.c.hv1, o.c.km, o.c.ko⟩⟩
    · exact o
theorem others_l2 {h0 : Base} {s : Nat} {b : Int} {ob : Blks} {a : Option Addr} {n c : Nat} {l : List Int} {K : Heap → Prop} (hl : SlO nf 1 3 a n c l ob) (hn : n ≤ 1000) :
    ∀ (q i : Nat) (S : Scr) (h : Heap), RepX h0 h s S (ob ++ []) → n - i = q → i ≤ n → (∀ h1, Rep h0 h1 s (modesL (decide (b = 104)) (l.drop i) S) → K h1) → vt_Screen_others_l2 K (q + 1) (some ⟨s, 0, none⟩) b a n c (n : Int) i h := by
  have hnl := hl.1
  intro q
  induction q with
  | zero =>
    intro i S h hs hq hi hk
    unfold vt_Screen_others_l2
    rw [if_neg (by omega)]
    rw [List.drop_of_length_le (by omega)] at hk
    exact hk h hs.rep
  | succ q ih =>
    intro i S h hs hq hi hk
    unfold vt_Screen_others_l2
    rw [if_pos (by omega)]
    obtain ⟨p, hp, hd⟩ := (hs.ints hl).2 i (by omega)
    have hte : ((i : Int)).toNat = i := by omega
    rw [List.drop_eq_getElem_cons (by omega)] at hk
    unfold modesL at hk
    have e : l.getD i 0 = l[i]'(by omega) := by rw [List.getD_eq_getElem?_getD, List.getElem?_eq_getElem (by omega)]; rfl
    rw [← e] at hk
    subst hp
    refine nz_i ⟨by omega, by omega, ⟨_, by rw [hte]; exact hd, ?_⟩⟩
    rw [wrap64 (by omega) (by omega), show (i : Int) + 1 = ((i + 1 : Nat) : Int) by omega]
    show if l.getD i 0 = 4 then _ else _
    by_cases h1 : l.getD i 0 = 4
    · rw [if_pos h1] at hk ⊢
      refine nz_i ?_
      simp only [add0, Nat.zero_add]
      obtain ⟨A, oM, oO, oP, oT, oG, oK, oL, ho, hp⟩ := hs
      refine st0 ho rfl fun h2 ho2 => ?_
      have hs2 : RepX h0 h2 s { S with insert := decide (b = 104) } (ob ++ []) := ⟨A, oM, oO, oP, oT, oG, oK, oL, by assumption, hp.1, hp.2, hp.3, hp.4, hp.5, hp.6, hp.7⟩
      exact ih (i + 1) _ h2 hs2 (by omega) (by omega) hk
    rw [if_neg h1] at hk ⊢
    by_cases h2 : l.getD i 0 = 20
    · rw [if_pos h2] at hk ⊢
      refine nz_i ?_
      simp only [add0, Nat.zero_add]
      obtain ⟨A, oM, oO, oP, oT, oG, oK, oL, ho, hp⟩ := hs
      refine st0 ho rfl fun h2 ho2 => ?_
      have hs2 : RepX h0 h2 s { S with newline := decide (b = 104) } (ob ++ []) := ⟨A, oM, oO, oP, oT, oG, oK, oL, by assumption, hp.1, hp.2, hp.3, hp.4, hp.5, hp.6, hp.7⟩
      exact ih (i + 1) _ h2 hs2 (by omega) (by omega) hk
    · rw [if_neg h2] at hk ⊢
      exact ih (i + 1) S h hs (by omega) (by omega) hk
theorem sendsV_ok {S : Scr} (o : Ok S) (t : ByteArray) : Ok (sendsV S t) := by
  unfold sendsV
  split
  · rename_i h
    exact ⟨⟨o.d.w0, o.d.w1, o.d.h0, o.d.h1, o.d.m0, o.d.m1, o.d.past, o.d.main, o.d.other⟩, ⟨o.c.p, o.c.t0, o.c.tb, o.c.bh, o.c.tabs, o.c.gath, by show (S.answer ++ t).size ≤ 4096; rw [ByteArray.size_append]; exact h, o.c.hv0, o.c.hv1, o.c.km, o.c.ko⟩⟩
  · exact o
def whereV (S : Scr) : Int := if S.pl.origin = true then S.pl.y + 1 - S.top else S.pl.y + 1
def toldV (S : Scr) (y : Int) : ByteArray := ((((⟨#[27, 91]⟩ : ByteArray) ++ itoaV y) ++ (⟨#[59]⟩ : ByteArray)) ++ itoaV (S.pl.x + 1)) ++ (⟨#[82]⟩ : ByteArray)
def tellsV (S : Scr) (first y : Int) : Scr := if first = 5 then sendsV S ⟨#[27, 91, 48, 110]⟩ else if first = 6 then sendsV S (toldV S y) else S
theorem Ok.tells {S : Scr} (o : Ok S) (f y : Int) : Ok (tellsV S f y) := by
  unfold tellsV
  split
  · exact sendsV_ok o _
  split
  · exact sendsV_ok o _
  · exact o
theorem others_j3 {h0 : Base} {h : Heap} {s : Nat} {S : Scr} {first y : Int} {K : Heap → Prop} (ht : Tabs h0.h) (hs : Rep h0 h s S) (o : Ok S) (y0 : -1000 ≤ y) (y1 : y ≤ 1010) (hk : ∀ h1, Rep h0 h1 s (tellsV S first y) → K h1) : vt_Screen_others_j3 K ⟨s, 0, none⟩ first y h := by
  have hx0 := o.c.p.x0
  have hx1 := o.c.p.x1
  have hw1 := o.d.w1
  unfold vt_Screen_others_j3
  unfold tellsV at hk
  by_cases h1 : first = 5
  · rw [if_pos h1] at hk ⊢
    exact sends_sp hs o.c.ans (by decide) hk
  rw [if_neg h1] at hk ⊢
  by_cases h2 : first = 6
  · rw [if_pos h2] at hk ⊢
    simp only [add0, Nat.zero_add]
    refine hs.ldi (v := S.pl.x) (fun A => rfl) ?_
    refine itoa_sp (ht.ext hs.ext) y0 y1 fun h3 he3 => ?_
    have hs3 := hs.gap he3
    have z1 := itoaV_size y
    have z2 := itoaV_size (S.pl.x + 1)
    have t1 : (⟨#[27, 91]⟩ : ByteArray).size = 2 := rfl
    have t2 : (⟨#[59]⟩ : ByteArray).size = 1 := rfl
    have t3 : (⟨#[82]⟩ : ByteArray).size = 1 := rfl
    refine ⟨?_, by omega, by rw [ByteArray.size_append]; omega, ?_⟩
    · obtain ⟨A, oM, oO, oP, oT, oG, oK, oL, ho, hp⟩ := hs3
      exact ho.get0.cell 9 rfl
    rw [wrap64 (by omega) (by omega)]
    refine itoa_sp (ht.ext hs3.ext) (by omega) (by omega) fun h4 he4 => ⟨by simp only [ByteArray.size_append]; omega, by simp only [ByteArray.size_append]; omega, ?_⟩
    refine sends_sp (hs3.gap he4) o.c.ans ?_ hk
    simp only [ByteArray.size_append]
    omega
  · rw [if_neg h2] at hk ⊢
    exact hk h hs
def region (S : Scr) (n e : Int) : Scr := if n < e then homeV { S with top := n - 1, bottom := e - 1 } 1 1 else S
theorem Ok.region {S : Scr} (o : Ok S) {n e : Int} (hn : 1 ≤ n) (he : e ≤ S.h) : Ok (region S n e) := by
  unfold M.region
  split
  · have o1 : Ok { S with top := n - 1, bottom := e - 1 } := ⟨⟨o.d.w0, o.d.w1, o.d.h0, o.d.h1, o.d.m0, o.d.m1, o.d.past, o.d.main, o.d.other⟩, ⟨o.c.p, by show 0 ≤ n - 1; omega, by show n - 1 ≤ e - 1; omega, by show e - 1 < S.h; omega, o.c.tabs, o.c.gath, o.c.ans, o.c.hv0, o.c.hv1, o.c.km, o.c.ko⟩⟩
    exact o1.home 1 1
  · exact o
theorem others_j4 {h0 : Base} {h : Heap} {s : Nat} {S : Scr} {n e : Int} {K : Heap → Prop} (hs : Rep h0 h s S) (n0 : 0 ≤ n) (n1 : n ≤ 100000) (e0 : -10 ≤ e) (e1 : e ≤ 1000) (hk : ∀ h1, Rep h0 h1 s (region S n e) → K h1) : vt_Screen_others_j4 K ⟨s, 0, none⟩ n e h := by
  unfold vt_Screen_others_j4
  unfold region at hk
  by_cases h1 : n < e
  · rw [if_pos h1] at hk ⊢
    simp only [add0, Nat.zero_add]
    rw [wrap64 (x := n - 1) (by omega) (by omega), wrap64 (x := e - 1) (by omega) (by omega)]
    obtain ⟨A, oM, oO, oP, oT, oG, oK, oL, ho, hp⟩ := hs
    refine st0 ho rfl fun h2 ho2 => ?_
    refine st0 ho2 rfl fun h3 ho3 => ?_
    have hs3 : Rep h0 h3 s { S with top := n - 1, bottom := e - 1 } := ⟨A, oM, oO, oP, oT, oG, oK, oL, by assumption, hp.1, hp.2, hp.3, hp.4, hp.5, hp.6, hp.7⟩
    exact home_sp hs3 hk
  · rw [if_neg h1] at hk ⊢
    exact hk h hs
def endAt (S : Scr) (l : List Int) : Int := if atV l 1 S.h = 0 then S.h else if S.h < atV l 1 S.h then S.h else atV l 1 S.h
def others1 (S : Scr) (b : Int) (l : List Int) (n : Int) : Scr :=
  if b = 104 ∨ b = 108 then modesL (decide (b = 104)) l S else
  if b = 109 then pensV S l else
  if b = 110 then tellsV S (atV l 0 0) (whereV S) else
  if b = 99 then (if atV l 0 0 = 0 then sendsV S ⟨#[27, 91, 63, 49, 59, 50, 99]⟩ else S) else
  if b = 114 then region S n (endAt S l) else
  if b = 115 then unwait (keepCursorV S) else
  if b = 117 then backCursorV S else S
def othersV (S : Scr) (b : Int) (l : List Int) (n : Int) : Scr :=
  if b = 98 then repL n.toNat S else
  if b = 103 then (if atV l 0 0 = 0 then setTab S S.pl.x false else if atV l 0 0 = 3 then noTabs S else S) else others1 S b l n
theorem endAt_le (S : Scr) (l : List Int) : endAt S l ≤ S.h := by
  unfold endAt
  split
  · omega
  · split <;> omega
theorem Ok.others {S : Scr} (o : Ok S) (b : Int) (l : List Int) {n : Int} (hn : 1 ≤ n) : Ok (othersV S b l n) := by
  unfold othersV
  refine ite_ok (fun _ => Ok.repL _ _ o) (fun _ => ?_)
  refine ite_ok (fun _ => ite_ok (fun _ => o.setTab _ _) (fun _ => ite_ok (fun _ => o.noTabs) (fun _ => o))) (fun _ => ?_)
  unfold others1
  refine ite_ok (fun _ => Ok.modesL _ _ _ o) (fun _ => ?_)
  refine ite_ok (fun _ => o.pens l) (fun _ => ?_)
  refine ite_ok (fun _ => o.tells _ _) (fun _ => ?_)
  refine ite_ok (fun _ => ite_ok (fun _ => sendsV_ok o _) (fun _ => o)) (fun _ => ?_)
  refine ite_ok (fun _ => o.region hn (endAt_le S l)) (fun _ => ?_)
  refine ite_ok (fun _ => o.keepCursor.unwait) (fun _ => ?_)
  exact ite_ok (fun _ => o.backCursor) (fun _ => o)
theorem atV_ge (l : List Int) (i : Nat) (d : Int) (hd : 0 ≤ d) : 0 ≤ atV l i d := by
  unfold atV
  split
  · split
    · assumption
    · exact hd
  · exact hd
theorem others_j1 {h0 : Base} {h : Heap} {s : Nat} {S : Scr} {ob : Blks} {a : Option Addr} {n c : Nat} {l : List Int} {b m : Int} {q : Bool} {K : Heap → Prop} (ht : Tabs h0.h) (hs : RepX h0 h s S ob) (hl : SlO nf 1 3 a n c l ob) (o : Ok S) (hn : n ≤ 1000) (m0 : 1 ≤ m) (m1 : m ≤ 100000)
    (hq : q = decide (b = 104 ∨ b = 108)) (hk : ∀ h1, Rep h0 h1 s (others1 S b l m) → K h1) : vt_Screen_others_j1 K (some ⟨s, 0, none⟩) b a n c m (atV l 0 0) b q h := by
  have hnl := hl.1
  have y0 := o.c.p.y0
  have y1 := o.c.p.y1
  have hh0 := o.d.h0
  have hh1 := o.d.h1
  have ht0 := o.c.t0
  have htb := o.c.tb
  have hbh := o.c.bh
  have hsX : RepX h0 h s S (ob ++ []) := by rw [List.append_nil]; exact hs
  have hr := hs.rep
  unfold vt_Screen_others_j1
  unfold others1 at hk
  subst hq
  by_cases h1 : b = 104 ∨ b = 108
  · rw [if_pos h1] at hk
    rw [if_pos (by simpa using h1)]
    exact ⟨n + 1, others_l2 hl hn n 0 S h hsX (by omega) (by omega) hk⟩
  rw [if_neg h1] at hk
  rw [if_neg (by simpa using h1)]
  by_cases h2 : b = 109
  · rw [if_pos h2] at hk ⊢
    exact pens_sp hs hl hn hk
  rw [if_neg h2] at hk ⊢
  by_cases h3 : b = 110
  · rw [if_pos h3] at hk ⊢
    refine nz_i ?_
    simp only [add0, Nat.zero_add]
    refine hr.ldi (v := S.pl.y) (fun A => rfl) ?_
    refine hr.ldb (v := S.pl.origin) (fun A => rfl) ?_
    unfold whereV at hk
    rw [wrap64 (x := S.pl.y + 1) (by omega) (by omega)]
    by_cases h4 : S.pl.origin = true
    · rw [if_pos h4] at hk ⊢
      refine hr.ldi (v := S.top) (fun A => rfl) ?_
      rw [wrap64 (x := S.pl.y + 1 - S.top) (by omega) (by omega)]
      exact others_j3 ht hr o (by omega) (by omega) hk
    · rw [if_neg h4] at hk ⊢
      exact others_j3 ht hr o (by omega) (by omega) hk
  rw [if_neg h3] at hk ⊢
  by_cases h4 : b = 99
  · rw [if_pos h4] at hk ⊢
    by_cases h5 : atV l 0 0 = 0
    · rw [if_pos h5] at hk ⊢
      exact sends_sp hr o.c.ans (by decide) hk
    · rw [if_neg h5] at hk ⊢
      exact hk h hr
  rw [if_neg h4] at hk ⊢
  by_cases h5 : b = 114
  · rw [if_pos h5] at hk ⊢
    refine nz_i ?_
    simp only [add0, Nat.zero_add]
    refine hr.ldi (v := S.h) (fun A => rfl) ?_
    refine at_sp (hsX.ints hl) 1 ?_
    have hge := atV_ge l 1 S.h (by omega)
    unfold endAt at hk
    by_cases h6 : atV l 1 S.h = 0
    · rw [if_pos h6] at hk ⊢
      refine hr.ldi (v := S.h) (fun A => rfl) ?_
      exact others_j4 hr (by omega) m1 (by omega) (by omega) hk
    rw [if_neg h6] at hk ⊢
    refine hr.ldi (v := S.h) (fun A => rfl) ?_
    by_cases h7 : S.h < atV l 1 S.h
    · rw [if_pos h7] at hk ⊢
      refine hr.ldi (v := S.h) (fun A => rfl) ?_
      exact others_j4 hr (by omega) m1 (by omega) (by omega) hk
    · rw [if_neg h7] at hk ⊢
      exact others_j4 hr (by omega) m1 (by omega) (by omega) hk
  rw [if_neg h5] at hk ⊢
  by_cases h6 : b = 115
  · rw [if_pos h6] at hk ⊢
    refine keepCursor_sp hr fun h7 hs7 => nz_i ?_
    simp only [add0, Nat.zero_add]
    exact unwait_st hs7 hk
  rw [if_neg h6] at hk ⊢
  by_cases h7 : b = 117
  · rw [if_pos h7] at hk ⊢
    exact backCursor_sp hr hk
  · rw [if_neg h7] at hk ⊢
    exact hk h hr
theorem others_sp {h0 : Base} {h : Heap} {s : Nat} {S : Scr} {ob : Blks} {a : Option Addr} {n c : Nat} {l : List Int} {b m : Int} {K : Heap → Prop} (ht : Tabs h0.h) (hs : RepX h0 h s S ob) (hl : SlO nf 1 3 a n c l ob) (o : Ok S) (hn : n ≤ 1000) (m0 : 1 ≤ m) (m1 : m ≤ 100000)
    (hk : ∀ h1, Rep h0 h1 s (othersV S b l m) → K h1) : vt_Screen_others (some ⟨s, 0, none⟩) b a n c m K h := by
  have hsX : RepX h0 h s S (ob ++ []) := by rw [List.append_nil]; exact hs
  have hr := hs.rep
  unfold vt_Screen_others
  unfold othersV at hk
  refine at_sp (hsX.ints hl) 0 ?_
  by_cases h1 : b = 98
  · rw [if_pos h1] at hk ⊢
    exact ⟨m.toNat + 1, others_l0 m1 m.toNat S h 0 hr o (by omega) (by omega) hk⟩
  rw [if_neg h1] at hk ⊢
  by_cases h2 : b = 103
  · rw [if_pos h2] at hk ⊢
    by_cases h3 : atV l 0 0 = 0
    · rw [if_pos h3] at hk ⊢
      refine nz_i ?_
      simp only [add0, Nat.zero_add]
      exact hr.tabset (b := false) (K := K) o hk
    rw [if_neg h3] at hk ⊢
    by_cases h4 : atV l 0 0 = 3
    · rw [if_pos h4] at hk ⊢
      refine nz_i ?_
      simp only [add0, Nat.zero_add]
      exact hr.tabclear hk
    · rw [if_neg h4] at hk ⊢
      exact hk h hr
  rw [if_neg h2] at hk ⊢
  by_cases h3 : b = 104
  · rw [if_pos h3]
    exact others_j1 ht hs hl o hn m0 m1 (by simp [h3]) hk
  · rw [if_neg h3]
    exact others_j1 ht hs hl o hn m0 m1 (by simp [h3]) hk
end Go.Proofs.YthjdnhhifjpidaaDoor.M
