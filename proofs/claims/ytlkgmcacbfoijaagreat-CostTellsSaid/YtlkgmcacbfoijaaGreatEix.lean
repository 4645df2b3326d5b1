import Derived.Test.YtlkgmcacbfoijaaGreatZbb
import Derived.Test.YtlkgmcacbfoijaaGreatMh
set_option linter.unusedSimpArgs false
set_option linter.unusedVariables false
namespace Go.Proofs.YtlkgmcacbfoijaaGreat
open Go.RowKit


/-! ### cost's sums -/
def top : Nat := 9223372036854775807
def plusN (a b : Nat) : Nat := if top - min b top < a then top else a + b
def timesN (a b : Nat) : Nat := if 0 < b ∧ top / b < a then top else a * b
abbrev u64 (a : Nat) : Value := .int .u64 (a : Int)
set_option maxHeartbeats 4000000 in
set_option maxRecDepth 100000 in
theorem greatest_any (a b : Nat) (w : World) (ha : a ≤ top) (hb : b ≤ top) : Calls Tryz.prog 14 #[u64 a, u64 b] w fun e w' => e = .returned (u64 (max a b)) ∧ w = w' := by
  unfold top at ha hb
  go_enter Tryz.func14, Tryz.ntmps14
  go_wp2_with fail
  go_ret
  exact ⟨congrArg (fun x => Ending.returned (Value.int .u64 x)) (by omega), rfl⟩
set_option maxHeartbeats 4000000 in
set_option maxRecDepth 100000 in
theorem least_any (a b : Nat) (w : World) (ha : a ≤ top) (hb : b ≤ top) : Calls Tryz.prog 16 #[u64 a, u64 b] w fun e w' => e = .returned (u64 (min a b)) ∧ w = w' := by
  unfold top at ha hb
  go_enter Tryz.func16, Tryz.ntmps16
  go_wp2_with fail
  go_ret
  exact ⟨congrArg (fun x => Ending.returned (Value.int .u64 x)) (by omega), rfl⟩
set_option maxHeartbeats 4000000 in
set_option maxRecDepth 100000 in
theorem plus_any (a b : Nat) (w : World) (ha : a ≤ top) (hb : b ≤ top) : Calls Tryz.prog 15 #[u64 a, u64 b] w fun e w' => e = .returned (u64 (plusN a b)) ∧ w = w' := by
  unfold plusN
  unfold top at *
  have hmb : min (b : Int) 9223372036854775807 = b := by omega
  rw [Nat.min_eq_left hb]
  by_cases h : 9223372036854775807 - b < a
  · rw [if_pos h]
    have hd : decide ((9223372036854775807 : Int) - b < a) = true := decide_eq_true (by omega)
    have hd' : decide ((a : Int) > 9223372036854775807 - b) = true := decide_eq_true (by omega)
    go_enter Tryz.func15, Tryz.ntmps15
    go_wp2_with fail
    go_ret
    exact ⟨rfl, rfl⟩
  · rw [if_neg h]
    have hd : decide ((9223372036854775807 : Int) - b < a) = false := decide_eq_false (by omega)
    have hd' : decide ((a : Int) > 9223372036854775807 - b) = false := decide_eq_false (by omega)
    have hs : (a : Int) + b ≤ 9223372036854775807 := by omega
    go_enter Tryz.func15, Tryz.ntmps15
    go_wp2_with fail
    go_ret
    exact ⟨congrArg (fun x => Ending.returned (Value.int .u64 x)) (by omega), rfl⟩
set_option maxHeartbeats 4000000 in
set_option maxRecDepth 100000 in
theorem times_any (a b : Nat) (w : World) (ha : a ≤ top) (hb : b ≤ top) : Calls Tryz.prog 17 #[u64 a, u64 b] w fun e w' => e = .returned (u64 (timesN a b)) ∧ w = w' := by
  unfold timesN
  unfold top at *
  by_cases hb0 : b = 0
  · subst hb0
    rw [if_neg (by omega)]
    go_enter Tryz.func17, Tryz.ntmps17
    go_wp2_with fail
    refine bodyPost_ret (v := u64 0) (by simp [results, Tryz.results17, go_sem]) rfl ?_
    exact ⟨by rw [Nat.mul_zero], rfl⟩
  · have hbp : 0 < b := by omega
    have hbd : decide ((0 : Int) < b) = true := decide_eq_true (by omega)
    have hbd' : decide ((b : Int) > 0) = true := decide_eq_true (by omega)
    have hbz : ((b : Int) == 0) = false := beq_eq_false_iff_ne.2 (by omega)
    have hq : (9223372036854775807 : Int) / (b : Int) = ((9223372036854775807 / b : Nat) : Int) := by rw [Int.natCast_ediv]; rfl
    have hq2 : Int.tdiv (9223372036854775807 : Int) (b : Int) = ((9223372036854775807 / b : Nat) : Int) := by rw [Int.tdiv_eq_ediv_of_nonneg (by decide), hq]
    have hqm := Nat.div_mul_le_self 9223372036854775807 b
    have hqle : 9223372036854775807 / b ≤ 9223372036854775807 := Nat.div_le_self _ _
    by_cases h : 9223372036854775807 / b < a
    · rw [if_pos ⟨hbp, h⟩]
      have hd : decide (9223372036854775807 / b < a) = true := decide_eq_true h
      have hpb : decide (0 < b) = true := decide_eq_true hbp
      generalize 9223372036854775807 / b = q at *
      clear hb0 hqm h
      go_enter Tryz.func17, Tryz.ntmps17
      go_wp2_with fail
      go_ret
      exact ⟨rfl, rfl⟩
    · rw [if_neg (fun e => h e.2)]
      have hd : decide (9223372036854775807 / b < a) = false := decide_eq_false h
      have hpb : decide (0 < b) = true := decide_eq_true hbp
      have hab : a * b ≤ 9223372036854775807 := Nat.le_trans (Nat.mul_le_mul_right b (Nat.le_of_not_lt h)) hqm
      have hm : ((a * b : Nat) : Int) = (a : Int) * (b : Int) := Int.natCast_mul a b
      have hm1 : 0 ≤ (a : Int) * (b : Int) := by rw [← hm]; omega
      have hm2 : (a : Int) * (b : Int) ≤ 9223372036854775807 := by rw [← hm]; omega
      have HM := Lib.hid hm
      generalize 9223372036854775807 / b = q at *
      clear hb0 hqm h hab hm
      go_enter Tryz.func17, Tryz.ntmps17
      go_wp2_with fail
      refine bodyPost_ret (v := .int .u64 ((a : Int) * b)) (by simp [results, Tryz.results17, go_sem]) rfl ?_
      exact ⟨by rw [← HM.out], rfl⟩



/-! ### flow.Next -/
set_option maxHeartbeats 4000000 in
set_option maxRecDepth 100000 in
theorem fNext_any (l : List In) (a : Option Addr) (c i : Nat) (x : In) (w : World) (h : Ins w (.slice a l.length c) l) (hok : InsOk l) (hz : checkI l = 0) (hx : l[i]? = some x) (hs : (secL l)[i]? = some false) :
    Calls Tryz.prog 19 #[.slice a l.length c, .int .i64 i] w fun e w' => (∃ n nc na, e = .returned (.tuple #[.slice na n nc, .int .i64 0]) ∧ Ints w' (.slice na n nc) (nextC i x) ∧ ∀ g, (Value.slice na n nc).ownBlock = some g → w.heap.size ≤ g) ∧ Kept (fun _ => False) w w' := by
  have hlen := hok.len
  have hi := (List.getElem?_eq_some_iff.1 hx).1
  have HCK := Lib.hid (fun W hI => icheck_any l a c W hI hok)
  rw [hz] at HCK
  have HSE := Lib.hid (fun W hI => second_any l a c W hI hok)
  have hkn := known_of (check_parts hz).1 hx hs
  have HNE := Lib.hid (fun W hI => next_any l a c i x W hI hok hx hkn)
  have HIN := Lib.hid (fun (W : World) (hk : Kept (fun _ => False) w W) => h.kept hk)
  have HS := Lib.hid hs
  have hd0 : decide ((i : Int) < 0) = false := decide_eq_false (by omega)
  have hd1 : decide ((l.length : Int) ≤ i) = false := decide_eq_false (by omega)
  have hd2 : decide ((i : Int) ≥ l.length) = false := decide_eq_false (by omega)
  clear h hok hz hkn hs hx
  go_enter Tryz.func19, Tryz.ntmps19
  go_wp2_with fail
  refine (HCK.out _ (HIN.out _ (Kept.refl _ w))).mono ?_
  rintro e w1 ⟨⟨p, rfl⟩, hk1⟩
  go_wp2_with fail
  refine (HSE.out _ (HIN.out _ hk1)).mono ?_
  rintro e w2 ⟨sv, rfl, hS, hk2, ho2⟩
  obtain ⟨sg, sc, rfl, hsc, hsl⟩ := Sl.some_ hS (by rw [List.length_map, sec_len]; omega)
  rw [List.length_map, sec_len] at *
  have hsc2 := Bls.cell hS HS.out
  have hK2 := hk1.trans hk2 (fun _ _ h => h)
  clear hS ho2
  go_wp2_with fail
  refine (HNE.out _ (HIN.out _ hK2)).mono ?_
  rintro e w3 ⟨nv, rfl, hN, hk3, hno⟩
  obtain ⟨na, nc, rfl⟩ := Sl.any hN
  rw [List.length_map] at hN hno ⊢
  have hs2 := hK2.size
  go_wp2_with fail
  refine bodyPost_ret (v := .tuple #[.slice na (nextC i x).length nc, .int .i64 0]) (by simp [results, Tryz.results19, go_sem]) rfl ?_
  exact ⟨⟨_, _, _, rfl, hN, fun g hg => Nat.le_trans hs2 (hno g hg)⟩, hK2.trans hk3 (fun _ _ h => h)⟩
/-! ### what is called -/
def subB (x : In) : Bool := (x.op == 133) && (x.src == 1)
def wkV (a : Option Addr) (n c fj fa m : Nat) : Array Value := #[.slice a n c, .func (.func fj) #[] #[], .int .u64 1, .func (.func fa) #[] #[], .map (some m)]
theorem sub_jump {x : In} (h : x.op = 133) : isJumpB x = false := by
  unfold isJumpB clsI codeI
  rw [h]
  decide
set_option maxHeartbeats 4000000 in
set_option maxRecDepth 100000 in
theorem called_any (l : List In) (a : Option Addr) (c i : Nat) (x : In) (bw fj fa m : Nat) (w : World) (h : Ins w (.slice a l.length c) l) (hok : InsOk l) (hz : checkI l = 0) (hx : l[i]? = some x) (hs : (secL l)[i]? = some false) (hb : Blk w bw 71 (wkV a l.length c fj fa m)) :
    Calls Tryz.prog 31 #[.pointer (some ⟨bw, 0, none⟩), .int .i64 i] w fun e w' => e = .returned (.tuple #[.int .i64 (if subB x = true then (i : Int) + 1 + x.imm else 0), .bool (subB x)]) ∧ Kept (fun _ => False) w w' := by
  have hkn := known_of (check_parts hz).1 hx hs
  have hc0 : w.cell? ⟨bw, 0, none⟩ = some (.slice a l.length c) := hb.cell 0
  have hblt := hb.lt
  have hT := Lib.hid (fun hj hrg => target_any l a c i x w h hok hx hkn hj hrg)
  have hnok := Lib.hid (fun hc => nam_ok hz hx hs hc)
  obtain ⟨g, off, rfl, hg, c0, c1, c2, c3, c4⟩ := h.at_ hx
  have hi := (List.getElem?_eq_some_iff.1 hx).1
  have hlen := hok.len
  obtain ⟨S, hS⟩ : ∃ S, subB x = S := ⟨_, rfl⟩
  rw [hS]
  unfold subB at hS
  cases q1 : (x.op == 133)
  case false =>
    rw [q1] at hS
    subst hS
    have q1n : (!(x.op == 133)) = true := by rw [q1]; rfl
    have q1m : (x.op != 133) = true := by simp only [bne, q1]; rfl
    clear h hok hz hx hs hb hkn hT hnok
    go_enter Tryz.func31, Tryz.ntmps31
    go_wp2_with fail
    refine bodyPost_ret (v := .tuple #[.int .i64 0, .bool false]) (by simp [results, Tryz.results31, go_sem]) rfl ?_
    exact ⟨rfl, Kept.refl _ w⟩
  case true =>
  have q1n : (!(x.op == 133)) = false := by rw [q1]; rfl
  have q1m : (x.op != 133) = false := by simp only [bne, q1]; rfl
  rw [q1] at hS
  cases q2 : (x.src == 1)
  case false =>
    rw [q2] at hS
    subst hS
    have q2n : (!(x.src == 1)) = true := by rw [q2]; rfl
    have q2m : (x.src != 1) = true := by simp only [bne, q2]; rfl
    clear h hok hz hx hs hb hkn hT hnok
    go_enter Tryz.func31, Tryz.ntmps31
    go_wp2_with fail
    refine bodyPost_ret (v := .tuple #[.int .i64 0, .bool false]) (by simp [results, Tryz.results31, go_sem]) rfl ?_
    exact ⟨rfl, Kept.refl _ w⟩
  case true =>
  rw [q2] at hS
  subst hS
  have q2n : (!(x.src == 1)) = false := by rw [q2]; rfl
  have q2m : (x.src != 1) = false := by simp only [bne, q2]; rfl
  have hop : x.op = 133 := by simpa using q1
  have hcb : isCallB x = true := by unfold isCallB; rw [q1, q2]; rfl
  have hT2 := hT.out (sub_jump hop) (fun e => by obtain ⟨n, e1, e2, e3, _⟩ := hnok.out e; omega)
  rw [hcb] at hT2
  have hT3 := Lib.hid hT2
  clear h hok hz hx hs hb hkn hT hnok hT2 hop hcb
  go_enter Tryz.func31, Tryz.ntmps31
  go_wp2_with fail
  refine hT3.out.mono ?_
  rintro e w1 ⟨rfl, hk1⟩
  go_wp2_with fail
  refine bodyPost_ret (v := .tuple #[.int .i64 ((i : Int) + 1 + x.imm), .bool true]) (by simp [results, Tryz.results31, go_sem]) rfl ?_
  exact ⟨rfl, hk1⟩



/-! ### what a slot tells -/
structure RuleP where
  fj : Nat
  fa : Nat
  j : Nat → Nat → Nat
  a : Nat → Nat → Nat
  hj : ∀ (x y : Nat) (w : World), x ≤ top → y ≤ top → Calls Tryz.prog fj #[u64 x, u64 y] w fun e w' => e = .returned (u64 (j x y)) ∧ w = w'
  ha : ∀ (x y : Nat) (w : World), x ≤ top → y ≤ top → Calls Tryz.prog fa #[u64 x, u64 y] w fun e w' => e = .returned (u64 (a x y)) ∧ w = w'
  ej : ∀ (args : Array Value) (w : World), (callFunc fj args).run Tryz.prog w = .ok (.enter fj args) w
  ea : ∀ (args : Array Value) (w : World), (callFunc fa args).run Tryz.prog w = .ok (.enter fa args) w
  tj : ∀ x y, x ≤ top → y ≤ top → j x y ≤ top
  ta : ∀ x y, x ≤ top → y ≤ top → a x y ≤ top
theorem plusN_top {a b : Nat} (ha : a ≤ top) (hb : b ≤ top) : plusN a b ≤ top := by
  unfold plusN top at *
  split <;> omega
theorem timesN_top {a b : Nat} (ha : a ≤ top) (hb : b ≤ top) : timesN a b ≤ top := by
  unfold timesN top at *
  split
  · omega
  · rename_i h
    by_cases hb0 : b = 0
    · subst hb0; omega
    · have hq : ¬ 9223372036854775807 / b < a := fun e => h ⟨by omega, e⟩
      exact Nat.le_trans (Nat.mul_le_mul_right b (Nat.le_of_not_lt hq)) (Nat.div_mul_le_self _ _)
theorem ent14 (args : Array Value) (w : World) : (callFunc 14 args).run Tryz.prog w = .ok (.enter 14 args) w := by kernel_rfl
theorem ent15 (args : Array Value) (w : World) : (callFunc 15 args).run Tryz.prog w = .ok (.enter 15 args) w := by kernel_rfl
theorem ent16 (args : Array Value) (w : World) : (callFunc 16 args).run Tryz.prog w = .ok (.enter 16 args) w := by kernel_rfl
theorem ent17 (args : Array Value) (w : World) : (callFunc 17 args).run Tryz.prog w = .ok (.enter 17 args) w := by kernel_rfl
def longR : RuleP := ⟨14, 15, max, plusN, greatest_any, plus_any, ent14, ent15, fun x y hx hy => Nat.max_le.2 ⟨hx, hy⟩, fun _ _ => plusN_top⟩
def shortR : RuleP := ⟨16, 15, min, plusN, least_any, plus_any, ent16, ent15, fun x y hx hy => Nat.le_trans (Nat.min_le_left x y) hx, fun _ _ => plusN_top⟩
def waysR : RuleP := ⟨15, 17, plusN, timesN, plus_any, times_any, ent15, ent17, fun _ _ => plusN_top, fun _ _ => timesN_top⟩
def calC (R : RuleP) (V : Nat → Nat) (i : Nat) (x : In) : Nat := if subB x = true then R.a 1 (V ((i : Int) + 1 + x.imm).toNat) else 1
def nexC (R : RuleP) (V : Nat → Nat) (c : Nat) : List Int → Nat
  | [] => c
  | [j] => R.a c (V j.toNat)
  | j :: k :: _ => R.a c (R.j (V j.toNat) (V k.toNat))
/-- these numbers are what slots tell; they fall -/
structure Tells (R : RuleP) (l : List In) (V rk : Nat → Nat) : Prop where
  val : ∀ (i : Nat) (x : In), Rch l i → l[i]? = some x → V i = nexC R V (calC R V i x) (nextC i x)
  hi : ∀ i, V i ≤ top
  next : ∀ (i : Nat) (x : In), Rch l i → l[i]? = some x → ∀ j ∈ nextC i x, rk j.toNat < rk i
  sub : ∀ (i : Nat) (x : In), Rch l i → l[i]? = some x → subB x = true → rk ((i : Int) + 1 + x.imm).toNat < rk i
/-- the memory of the question -/
structure AM (b2 b5 bw m : Nat) (a : Option Addr) (n c : Nat) (R : RuleP) (V : Nat → Nat) (w : World) (M : List (Int × Value)) : Prop where
  p : Blk w b2 52 #[.pointer (some ⟨bw, 0, none⟩)]
  f : Blk w b5 56 #[.func (.func 30) #[] #[.pointer (some ⟨b2, 0, none⟩), .pointer (some ⟨b5, 0, none⟩)]]
  s : Blk w bw 71 (wkV a n c R.fj R.fa m)
  m : IMap w .i64 m M
  ok : ∀ (i : Nat) (v : Value), lookI M i = some v → v = u64 (V i)
theorem AM.kept {b2 b5 bw m : Nat} {a : Option Addr} {n c : Nat} {R : RuleP} {V : Nat → Nat} {w w' : World} {M : List (Int × Value)} (h : AM b2 b5 bw m a n c R V w M) (hk : Kept (fun _ => False) w w') : AM b2 b5 bw m a n c R V w' M :=
  ⟨hk.blk id h.p, hk.blk id h.f, hk.blk id h.s, h.m.kept hk id, h.ok⟩
theorem AM.upd {b2 b5 bw m : Nat} {a : Option Addr} {n c : Nat} {R : RuleP} {V : Nat → Nat} {w w' : World} {M M' : List (Int × Value)} (h : AM b2 b5 bw m a n c R V w M) (hk : Kept (fun k => k = m) w w') (hM : IMap w' .i64 m M') (hok : ∀ (i : Nat) (v : Value), lookI M' i = some v → v = u64 (V i)) : AM b2 b5 bw m a n c R V w' M' :=
  ⟨hk.blk (fun e => h.m.ne_blk h.p e.symm) h.p, hk.blk (fun e => h.m.ne_blk h.f e.symm) h.f, hk.blk (fun e => h.m.ne_blk h.s e.symm) h.s, hM, hok⟩
theorem lookI_updE (M : List (Int × Value)) (x y : Int) (u : Value) : lookI (updI M x u) y = if x = y then some u else lookI M y := by
  induction M with
  | nil => simp [updI, lookI]
  | cons p r ih =>
    obtain ⟨k, v⟩ := p
    unfold updI
    by_cases h : k = x
    · rw [if_pos h]
      subst h
      by_cases h2 : k = y
      · simp [lookI, h2]
      · simp [lookI, h2]
    · rw [if_neg h]
      unfold lookI
      rw [ih]
      by_cases h2 : k = y
      · subst h2
        rw [if_pos rfl, if_pos rfl, if_neg (fun e => h e.symm)]
      · rw [if_neg h2, if_neg h2]
theorem infoZU : ∀ w, (zeroValue 24).run Tryz.prog w = .ok (.int .u64 0) w := fun w => by kernel_rfl
set_option maxHeartbeats 16000000 in
set_option maxRecDepth 100000 in
theorem ask_ih (l : List In) (a : Option Addr) (c : Nat) (R : RuleP) (V rk : Nat → Nat) (w0 : World) (h : Ins w0 (.slice a l.length c) l) (hok : InsOk l) (hz : checkI l = 0) (hT : Tells R l V rk) (b2 b5 bw m : Nat) (hm0 : w0.heap.size ≤ m) : ∀ (f i : Nat) (w : World) (M : List (Int × Value)), rk i < f → Rch l i → Kept (fun _ => False) w0 w → AM b2 b5 bw m a l.length c R V w M →
    Calls Tryz.prog 30 #[.int .i64 i, .pointer (some ⟨b2, 0, none⟩), .pointer (some ⟨b5, 0, none⟩)] w fun e w' => e = .returned (u64 (V i)) ∧ ∃ M', AM b2 b5 bw m a l.length c R V w' M' ∧ Kept (fun k => k = m) w w' := by
  intro f
  induction f with
  | zero => exact fun i w M h => absurd h (Nat.not_lt_zero _)
  | succ f ih =>
  intro i w M hrk hr hk0 hA
  have hlen := hok.len
  obtain ⟨hil, hs⟩ := rch_ok hz hr
  obtain ⟨x, hx⟩ : ∃ x, l[i]? = some x := ⟨_, List.getElem?_eq_getElem hil⟩
  have hlk := hA.m.look2 (P := Tryz.prog) (t := 69) Tryz.underlying69 Tryz.underlying3 infoZU (i : Int)
  have hvi := hT.hi i
  cases hl : lookI M i with
  | some v =>
    have hv := hA.ok i v hl
    subst hv
    rw [hl] at hlk
    have cp := hA.p.cell 0
    have cm : w.cell? ⟨bw, 4, none⟩ = some (.map (some m)) := hA.s.cell 4
    have lp := hA.p.lt
    have ls := hA.s.lt
    have HA := Lib.hid hA
    clear hA ih h hok hz hT hs hx hr hk0 hl
    go_enter Tryz.func30, Tryz.ntmps30
    go_wp2_with fail
    go_ret
    exact ⟨rfl, M, HA.out, Kept.refl _ w⟩
  | none =>
    rw [hl] at hlk
    have cp := hA.p.cell 0
    have cm : w.cell? ⟨bw, 4, none⟩ = some (.map (some m)) := hA.s.cell 4
    have ca : w.cell? ⟨bw, 2, none⟩ = some (.int .u64 1) := hA.s.cell 2
    have lp := hA.p.lt
    have ls := hA.s.lt
    have hml := hA.m.lt
    have HCA := Lib.hid (called_any l a c i x bw R.fj R.fa m w (h.kept hk0) hok hz hx hs hA.s)
    have HNX := Lib.hid (fun W (hk : Kept (fun _ => False) w0 W) => fNext_any l a c i x W (h.kept hk) hok hz hx hs)
    have HIH := Lib.hid ih
    have HVV := Lib.hid (hT.val i x hr hx)
    have HVT := Lib.hid hT.hi
    have hnr : ∀ j ∈ nextC i x, ∃ n : Nat, j = n ∧ Rch l n ∧ rk n < f := fun j hj => by
      obtain ⟨n, e, e2, e3, _⟩ := next_ok hz hx hs hj
      subst e
      have := hT.next i x hr hx (n : Int) hj
      rw [Int.toNat_natCast] at this
      exact ⟨n, rfl, .step hr (by rw [succ_at hx]; exact List.mem_append_left _ hj), by omega⟩
    have hsr : subB x = true → ∃ n : Nat, (i : Int) + 1 + x.imm = n ∧ Rch l n ∧ rk n < f := fun e => by
      have hcb : isCallB x = true := by
        unfold subB at e
        unfold isCallB
        rw [e]; rfl
      obtain ⟨n, e1, e2, e3, _⟩ := nam_ok hz hx hs hcb
      have := hT.sub i x hr hx e
      rw [e1, Int.toNat_natCast] at this
      exact ⟨n, e1, .step hr (by rw [succ_at hx]; exact List.mem_append_right _ (by unfold namC; rw [if_pos hcb, e1]; simp)), by omega⟩
    have HNR := Lib.hid hnr
    have HSR := Lib.hid hsr
    have HA := Lib.hid hA
    have HK0 := Lib.hid hk0
    have hnl := next_len i x
    have HRA := Lib.hid R.ha
    have HRJ := Lib.hid R.hj
    have HTA := Lib.hid R.ta
    have HTJ := Lib.hid R.tj
    have hea := R.ea
    have hej := R.ej
    clear hA ih h hok hz hT hs hx hr hk0 hl hnr hsr
    obtain ⟨cc, hcc⟩ : ∃ cc, calC R V i x = cc := ⟨_, rfl⟩
    rw [hcc] at HVV
    generalize nextC i x = N at *
    have HCC := Lib.hid hcc
    clear hcc
    have hct : cc ≤ top := by
      rw [← HCC.out]
      unfold calC
      split
      · exact HTA.out _ _ (by unfold top; omega) (HVT.out _)
      · unfold top; omega
    unfold top at hct hvi
    cases hsub : subB x
    case false =>
      rw [hsub] at HCA
      have hc1 : cc = 1 := by rw [← HCC.out]; unfold calC; rw [hsub]; rfl
      subst hc1
      clear HSR HCC hsub
      go_enter Tryz.func30, Tryz.ntmps30
      go_wp2_with fail
      refine HCA.out.mono ?_
      rintro e w5 ⟨rfl, hk1⟩
      have HA5 := Lib.hid (HA.out.kept hk1)
      have HK5 := Lib.hid (hk1.mono (G := fun k => k = m) (fun _ _ h => h.elim))
      clear hk1 HCA HA cp cm ca lp ls hlk
      have cp := HA5.out.p.cell 0
      have cl : w5.cell? ⟨bw, 0, none⟩ = some (.slice a l.length c) := HA5.out.s.cell 0
      have cj : w5.cell? ⟨bw, 1, none⟩ = some (.func (.func R.fj) #[] #[]) := HA5.out.s.cell 1
      have cad : w5.cell? ⟨bw, 3, none⟩ = some (.func (.func R.fa) #[] #[]) := HA5.out.s.cell 3
      have cm : w5.cell? ⟨bw, 4, none⟩ = some (.map (some m)) := HA5.out.s.cell 4
      have cf := HA5.out.f.cell 0
      have lp := HA5.out.p.lt
      have ls := HA5.out.s.lt
      have lf := HA5.out.f.lt
      have hk05 : Kept (fun _ => False) w0 w5 := HK0.out.trans HK5.out (fun k hk e => by have e : k = m := e; omega)
      go_wp2_with fail
      refine (HNX.out w5 hk05).mono ?_
      rintro e w6 ⟨⟨n, nc, na, rfl, hN, hno⟩, hk6⟩
      have hn := Sl.len hN
      rw [List.length_map] at hn
      subst hn
      have HA6 := Lib.hid (HA5.out.kept hk6)
      have HK6 := Lib.hid (HK5.out.trans hk6 (fun _ _ h => h.elim))
      have hk06 := Lib.hid (hk05.trans hk6 (fun _ _ h => h))
      have hs6 := hk6.size
      have hml5 := HA5.out.m.lt
      clear cp cl cj cad cm cf lp ls lf
      clear HNX hk05 hk6 HA5 HK5
      have cp := HA6.out.p.cell 0
      have cl : w6.cell? ⟨bw, 0, none⟩ = some (.slice a l.length c) := HA6.out.s.cell 0
      have cj : w6.cell? ⟨bw, 1, none⟩ = some (.func (.func R.fj) #[] #[]) := HA6.out.s.cell 1
      have cad : w6.cell? ⟨bw, 3, none⟩ = some (.func (.func R.fa) #[] #[]) := HA6.out.s.cell 3
      have cm : w6.cell? ⟨bw, 4, none⟩ = some (.map (some m)) := HA6.out.s.cell 4
      have cf := HA6.out.f.cell 0
      have lp := HA6.out.p.lt
      have ls := HA6.out.s.lt
      have lf := HA6.out.f.lt
      match N, hnl with
      | [], _ =>
        have HVE : Hid (V i = 1) := Lib.hid HVV.out
        clear hN hno
        go_wp2_with (refine wpList_updI rfl (.tmp 89) (.tmp 90) (.tmp 91) 69 rfl Tryz.underlying69 Tryz.underlying3 HA6.out.m i (u64 (1)) rfl rfl rfl ?_; intro w9 hm9 hk9)
        go_ret
        refine ⟨congrArg (fun n : Nat => Ending.returned (u64 n)) (HVE.out.symm), _, HA6.out.upd hk9 hm9 (fun j v hv => ?_), HK6.out.trans hk9 (fun _ _ h => h)⟩
        rw [lookI_updE] at hv
        split at hv
        · rename_i e
          have e : i = j := by omega
          subst e
          cases hv
          exact congrArg (fun n : Nat => u64 n) (HVE.out.symm)
        · exact HA6.out.ok j v hv
      | [j], _ =>
        obtain ⟨jn, rfl, hjr, hjk⟩ := HNR.out j (by simp)
        have HVE : Hid (V i = R.a 1 (V jn)) := Lib.hid (by have := HVV.out; rwa [show nexC R V 1 [(jn : Int)] = R.a 1 (V jn) from by simp [nexC]] at this)
        obtain ⟨ng, ncap, hnv, hnc, hngl⟩ := Sl.some_ hN (by simp)
        cases hnv
        have hn0 := Ints.cell hN (i := 0) (x := (jn : Int)) rfl
        have HCJ := Lib.hid (HIH.out jn w6.drew _ hjk hjr hk06.out.drew (HA6.out.kept (Kept.refl _ w6).drew))
        have hvj := HVT.out jn
        have hvt := HTA.out 1 (V jn) (by unfold top; omega) hvj
        have HRA2 := Lib.hid (fun W => HRA.out 1 (V jn) W (by unfold top; omega) hvj)
        clear hN hno HIH HNR hnc hjk hjr HVV
        unfold top at hvj
        go_wp2_with fail
        refine wp_region_mix0 [.l, .w, .w, .l, .t, .w] (by kernel_rfl) (by kernel_rfl) ?_
        refine mix_load1 rfl rfl 56 (.tmp 2) rfl (fun w => by kernel_rfl) ⟨b5, 0, none⟩ (.func (.func 30) #[] #[.pointer (some ⟨b2, 0, none⟩), .pointer (some ⟨b5, 0, none⟩)]) rfl (fun w' hw' => by rw [hw']; exact cf) ?_
        simp only [Act.put, List.setIfInBounds_toArray, List.set_cons_succ, List.set_cons_zero]
        repeat (refine mix_w1 ?_; go_big_quiet_step (fail); refine wpQuiet_nil ?_)
        refine mix_load1 rfl rfl 3 (.tmp 60) rfl (fun w => by kernel_rfl) ⟨ng, 0, none⟩ (.int .i64 jn) rfl (fun w' hw' => by rw [hw']; exact hn0) ?_
        simp only [Act.put, List.setIfInBounds_toArray, List.set_cons_succ, List.set_cons_zero]
        refine mix_t fun Q' hQ' => ?_
        go_wp2_with fail
        refine HCJ.out.mono ?_
        rintro e w7 ⟨rfl, M7, hA7, hk7⟩
        go_wp2_with fail
        refine mix_w1 ?_; go_big_quiet_step (fail); refine wpQuiet_nil ?_
        refine mix_done ?_
        have HA7 := Lib.hid hA7
        have HK7 := Lib.hid (HK6.out.drew.trans hk7 (fun _ _ h => h))
        clear hA7 HCJ HA6 HK6
        clear hn0 hngl
        clear cp cl cj cad cm cf lp ls lf
        have cp := HA7.out.p.cell 0
        have cl : w7.cell? ⟨bw, 0, none⟩ = some (.slice a l.length c) := HA7.out.s.cell 0
        have cj : w7.cell? ⟨bw, 1, none⟩ = some (.func (.func R.fj) #[] #[]) := HA7.out.s.cell 1
        have cad : w7.cell? ⟨bw, 3, none⟩ = some (.func (.func R.fa) #[] #[]) := HA7.out.s.cell 3
        have cm : w7.cell? ⟨bw, 4, none⟩ = some (.map (some m)) := HA7.out.s.cell 4
        have cf := HA7.out.f.cell 0
        have lp := HA7.out.p.lt
        have ls := HA7.out.s.lt
        have lf := HA7.out.f.lt
        unfold top at hvt
        go_wp2_with fail
        refine (HRA2.out _).mono ?_
        rintro e w8 ⟨rfl, rfl⟩
        generalize R.a 1 (V jn) = res at *
        go_wp2_with (refine wpList_updI rfl (.tmp 89) (.tmp 90) (.tmp 91) 69 rfl Tryz.underlying69 Tryz.underlying3 HA7.out.m i (u64 (res)) rfl rfl rfl ?_; intro w9 hm9 hk9)
        go_ret
        refine ⟨congrArg (fun n : Nat => Ending.returned (u64 n)) (HVE.out.symm), _, HA7.out.upd hk9 hm9 (fun j v hv => ?_), HK7.out.trans hk9 (fun _ _ h => h)⟩
        rw [lookI_updE] at hv
        split at hv
        · rename_i e
          have e : i = j := by omega
          subst e
          cases hv
          exact congrArg (fun n : Nat => u64 n) (HVE.out.symm)
        · exact HA7.out.ok j v hv
      | [j, k], _ =>
        obtain ⟨jn, rfl, hjr, hjk⟩ := HNR.out j (by simp)
        obtain ⟨kn, rfl, hkr, hkk⟩ := HNR.out k (by simp)
        have HVE : Hid (V i = R.a 1 (R.j (V jn) (V kn))) := Lib.hid (by have := HVV.out; rwa [show nexC R V 1 [(jn : Int), (kn : Int)] = R.a 1 (R.j (V jn) (V kn)) from by simp [nexC]] at this)
        obtain ⟨ng, ncap, hnv, hnc, hngl⟩ := Sl.some_ hN (by simp)
        cases hnv
        have hn0 := Ints.cell hN (i := 0) (x := (jn : Int)) rfl
        have hn1 := Ints.cell hN (i := 1) (x := (kn : Int)) rfl
        have hnm : ng ≠ m := fun e => by have := hno ng rfl; omega
        have HCJ := Lib.hid (HIH.out jn w6.drew _ hjk hjr hk06.out.drew (HA6.out.kept (Kept.refl _ w6).drew))
        have HCK := Lib.hid (fun W M hk hA => HIH.out kn W M hkk hkr hk hA)
        have hvj := HVT.out jn
        have hvk := HVT.out kn
        have hvl := HTJ.out (V jn) (V kn) hvj hvk
        have hvt := HTA.out 1 (R.j (V jn) (V kn)) (by unfold top; omega) hvl
        have HRJ2 := Lib.hid (fun W => HRJ.out (V jn) (V kn) W hvj hvk)
        have HRA2 := Lib.hid (fun W => HRA.out 1 (R.j (V jn) (V kn)) W (by unfold top; omega) hvl)
        clear hN hno HIH HNR hnc hjk hjr HVV hkk hkr
        unfold top at hvj
        go_wp2_with fail
        refine wp_region_mix0 [.l, .w, .w, .l, .t, .w] (by kernel_rfl) (by kernel_rfl) ?_
        refine mix_load1 rfl rfl 56 (.tmp 2) rfl (fun w => by kernel_rfl) ⟨b5, 0, none⟩ (.func (.func 30) #[] #[.pointer (some ⟨b2, 0, none⟩), .pointer (some ⟨b5, 0, none⟩)]) rfl (fun w' hw' => by rw [hw']; exact cf) ?_
        simp only [Act.put, List.setIfInBounds_toArray, List.set_cons_succ, List.set_cons_zero]
        repeat (refine mix_w1 ?_; go_big_quiet_step (fail); refine wpQuiet_nil ?_)
        refine mix_load1 rfl rfl 3 (.tmp 60) rfl (fun w => by kernel_rfl) ⟨ng, 0, none⟩ (.int .i64 jn) rfl (fun w' hw' => by rw [hw']; exact hn0) ?_
        simp only [Act.put, List.setIfInBounds_toArray, List.set_cons_succ, List.set_cons_zero]
        refine mix_t fun Q' hQ' => ?_
        go_wp2_with fail
        refine HCJ.out.mono ?_
        rintro e w7 ⟨rfl, M7, hA7, hk7⟩
        go_wp2_with fail
        refine mix_w1 ?_; go_big_quiet_step (fail); refine wpQuiet_nil ?_
        refine mix_done ?_
        have HA7 := Lib.hid hA7
        have HK7 := Lib.hid (HK6.out.drew.trans hk7 (fun _ _ h => h))
        clear hA7 HCJ HA6 HK6
        have hn1' : w7.cell? ⟨ng, 1, none⟩ = some (.int .i64 kn) := (hk7.cell (p := ⟨ng, 1, none⟩) hngl hnm).trans hn1
        have hngl7 := Nat.lt_of_lt_of_le hngl hk7.size
        have hk07 := hk06.out.drew.trans hk7 (fun k hk e => by have e : k = m := e; omega)
        clear hn0 hn1 hngl
        clear cp cl cj cad cm cf lp ls lf
        have cp := HA7.out.p.cell 0
        have cl : w7.cell? ⟨bw, 0, none⟩ = some (.slice a l.length c) := HA7.out.s.cell 0
        have cj : w7.cell? ⟨bw, 1, none⟩ = some (.func (.func R.fj) #[] #[]) := HA7.out.s.cell 1
        have cad : w7.cell? ⟨bw, 3, none⟩ = some (.func (.func R.fa) #[] #[]) := HA7.out.s.cell 3
        have cm : w7.cell? ⟨bw, 4, none⟩ = some (.map (some m)) := HA7.out.s.cell 4
        have cf := HA7.out.f.cell 0
        have lp := HA7.out.p.lt
        have ls := HA7.out.s.lt
        have lf := HA7.out.f.lt
        unfold top at hvk hvl hvt
        go_wp2_with fail
        refine wp_region_mix [.l, .w, .w, .w, .l, .w, .l, .w, .w, .l, .k, .t, .w] (by kernel_rfl) (by kernel_rfl) (fun W => ∃ M', AM b2 b5 bw m a l.length c R V W M' ∧ Kept (fun k => k = m) w7 W) ?_
        have HC : ∃ M', AM b2 b5 bw m a l.length c R V w7.drew M' ∧ Kept (fun k => k = m) w7 w7.drew := ⟨_, HA7.out.kept (Kept.refl _ w7).drew, (Kept.refl _ w7).drew⟩
        refine mix_load1 HC rfl 52 (.tmp 1) rfl (fun w => by kernel_rfl) ⟨b2, 0, none⟩ (.pointer (some ⟨bw, 0, none⟩)) rfl (fun w' hw' => by obtain ⟨M', hA, _⟩ := hw'; exact hA.p.cell 0) ?_
        simp only [Act.put, List.setIfInBounds_toArray, List.set_cons_succ, List.set_cons_zero]
        repeat (refine mix_w1 ?_; go_big_quiet_step (fail); refine wpQuiet_nil ?_)
        refine mix_load1 HC rfl 49 (.tmp 69) rfl (fun w => by kernel_rfl) ⟨bw, 1, none⟩ (.func (.func R.fj) #[] #[]) rfl (fun w' hw' => by obtain ⟨M', hA, _⟩ := hw'; exact hA.s.cell 1) ?_
        simp only [Act.put, List.setIfInBounds_toArray, List.set_cons_succ, List.set_cons_zero]
        repeat (refine mix_w1 ?_; go_big_quiet_step (fail); refine wpQuiet_nil ?_)
        refine mix_load1 HC rfl 56 (.tmp 2) rfl (fun w => by kernel_rfl) ⟨b5, 0, none⟩ (.func (.func 30) #[] #[.pointer (some ⟨b2, 0, none⟩), .pointer (some ⟨b5, 0, none⟩)]) rfl (fun w' hw' => by obtain ⟨M', hA, _⟩ := hw'; exact hA.f.cell 0) ?_
        simp only [Act.put, List.setIfInBounds_toArray, List.set_cons_succ, List.set_cons_zero]
        repeat (refine mix_w1 ?_; go_big_quiet_step (fail); refine wpQuiet_nil ?_)
        refine mix_load1 HC rfl 3 (.tmp 74) rfl (fun w => by kernel_rfl) ⟨ng, 1, none⟩ (.int .i64 kn) rfl (fun w' hw' => by obtain ⟨M', _, hk⟩ := hw'; exact (hk.cell (p := ⟨ng, 1, none⟩) hngl7 hnm).trans hn1') ?_
        simp only [Act.put, List.setIfInBounds_toArray, List.set_cons_succ, List.set_cons_zero]
        refine mix_k HC fun Q' hQ' => ?_
        go_wp2_with fail
        refine (HCK.out _ _ hk07.drew (HA7.out.kept (Kept.refl _ w7).drew)).mono ?_
        rintro e w8 ⟨rfl, M8, hA8, hk8⟩
        go_wp2_with fail
        refine hQ' _ _ ⟨M8, hA8, (Kept.refl _ w7).drew.trans hk8 (fun _ _ h => h)⟩ ?_
        clear hQ' Q' HC HCK
        have HK8 := Lib.hid (HK7.out.trans ((Kept.refl (fun k => k = m) w7).drew.trans hk8 (fun _ _ h => h)) (fun _ _ h => h))
        have HA8 := Lib.hid hA8
        clear hA8 hk8 hn1'
        clear cp cl cj cad cm cf lp ls lf
        have cp := HA8.out.p.cell 0
        have cl : w8.cell? ⟨bw, 0, none⟩ = some (.slice a l.length c) := HA8.out.s.cell 0
        have cj : w8.cell? ⟨bw, 1, none⟩ = some (.func (.func R.fj) #[] #[]) := HA8.out.s.cell 1
        have cad : w8.cell? ⟨bw, 3, none⟩ = some (.func (.func R.fa) #[] #[]) := HA8.out.s.cell 3
        have cm : w8.cell? ⟨bw, 4, none⟩ = some (.map (some m)) := HA8.out.s.cell 4
        have cf := HA8.out.f.cell 0
        have lp := HA8.out.p.lt
        have ls := HA8.out.s.lt
        have lf := HA8.out.f.lt
        refine mix_t fun Q' hQ' => ?_
        go_wp2_with fail
        refine (HRJ2.out _).mono ?_
        rintro e w8' ⟨rfl, rfl⟩
        go_wp2_with fail
        refine mix_w1 ?_; go_big_quiet_step (fail); refine wpQuiet_nil ?_
        refine mix_done ?_
        generalize R.j (V jn) (V kn) = jj at *
        go_wp2_with fail
        refine (HRA2.out _).mono ?_
        rintro e w8' ⟨rfl, rfl⟩
        generalize R.a 1 jj = res at *
        go_wp2_with (refine wpList_updI rfl (.tmp 89) (.tmp 90) (.tmp 91) 69 rfl Tryz.underlying69 Tryz.underlying3 HA8.out.m i (u64 (res)) rfl rfl rfl ?_; intro w9 hm9 hk9)
        go_ret
        refine ⟨congrArg (fun n : Nat => Ending.returned (u64 n)) (HVE.out.symm), _, HA8.out.upd hk9 hm9 (fun j v hv => ?_), HK8.out.trans hk9 (fun _ _ h => h)⟩
        rw [lookI_updE] at hv
        split at hv
        · rename_i e
          have e : i = j := by omega
          subst e
          cases hv
          exact congrArg (fun n : Nat => u64 n) (HVE.out.symm)
        · exact HA8.out.ok j v hv
      | _ :: _ :: _ :: _, h => exact absurd h (by simp)
    case true =>
      rw [hsub] at HCA
      obtain ⟨tn, htn, htr, htk⟩ := HSR.out hsub
      have hc1 : cc = R.a 1 (V tn) := by rw [← HCC.out]; unfold calC; rw [if_pos hsub, htn, Int.toNat_natCast]
      have hCA2 : Calls Tryz.prog 31 #[.pointer (some ⟨bw, 0, none⟩), .int .i64 i] w fun e w' => e = .returned (.tuple #[.int .i64 tn, .bool true]) ∧ Kept (fun _ => False) w w' := by
        have := HCA.out
        rw [if_pos rfl, htn] at this
        exact this
      have HCA2 := Lib.hid hCA2
      have hvt0 := HVT.out tn
      have HRA1 := Lib.hid (fun W => HRA.out 1 (V tn) W (by unfold top; omega) hvt0)
      rw [← hc1] at HRA1
      have HCT := Lib.hid (fun W M hk hA => HIH.out tn W M htk htr hk hA)
      unfold top at hvt0
      clear HSR HCC hsub htn htr htk hc1 HCA hCA2
      go_enter Tryz.func30, Tryz.ntmps30
      go_wp2_with fail
      refine HCA2.out.mono ?_
      rintro e w4 ⟨rfl, hk1⟩
      have HA4 := Lib.hid (HA.out.kept hk1)
      have HK4 := Lib.hid (hk1.mono (G := fun k => k = m) (fun _ _ h => h.elim))
      have hk04 := Lib.hid (HK0.out.trans hk1 (fun _ _ h => h))
      clear hk1 HCA2 HA cp cm ca lp ls hlk
      have cp := HA4.out.p.cell 0
      have cl : w4.cell? ⟨bw, 0, none⟩ = some (.slice a l.length c) := HA4.out.s.cell 0
      have cj : w4.cell? ⟨bw, 1, none⟩ = some (.func (.func R.fj) #[] #[]) := HA4.out.s.cell 1
      have cad : w4.cell? ⟨bw, 3, none⟩ = some (.func (.func R.fa) #[] #[]) := HA4.out.s.cell 3
      have cm : w4.cell? ⟨bw, 4, none⟩ = some (.map (some m)) := HA4.out.s.cell 4
      have cf := HA4.out.f.cell 0
      have lp := HA4.out.p.lt
      have ls := HA4.out.s.lt
      have lf := HA4.out.f.lt
      go_wp2_with fail
      refine wp_region_mix [.l, .w, .w, .w, .l, .w, .l, .w, .k, .t, .w] (by kernel_rfl) (by kernel_rfl) (fun W => ∃ M', AM b2 b5 bw m a l.length c R V W M' ∧ Kept (fun k => k = m) w4 W) ?_
      have HC : ∃ M', AM b2 b5 bw m a l.length c R V w4.drew M' ∧ Kept (fun k => k = m) w4 w4.drew := ⟨_, HA4.out.kept (Kept.refl _ w4).drew, (Kept.refl _ w4).drew⟩
      refine mix_load1 HC rfl 52 (.tmp 1) rfl (fun w => by kernel_rfl) ⟨b2, 0, none⟩ (.pointer (some ⟨bw, 0, none⟩)) rfl (fun w' hw' => by obtain ⟨M', hA, _⟩ := hw'; exact hA.p.cell 0) ?_
      simp only [Act.put, List.setIfInBounds_toArray, List.set_cons_succ, List.set_cons_zero]
      repeat (refine mix_w1 ?_; go_big_quiet_step (fail); refine wpQuiet_nil ?_)
      refine mix_load1 HC rfl 49 (.tmp 39) rfl (fun w => by kernel_rfl) ⟨bw, 3, none⟩ (.func (.func R.fa) #[] #[]) rfl (fun w' hw' => by obtain ⟨M', hA, _⟩ := hw'; exact hA.s.cell 3) ?_
      simp only [Act.put, List.setIfInBounds_toArray, List.set_cons_succ, List.set_cons_zero]
      repeat (refine mix_w1 ?_; go_big_quiet_step (fail); refine wpQuiet_nil ?_)
      refine mix_load1 HC rfl 56 (.tmp 2) rfl (fun w => by kernel_rfl) ⟨b5, 0, none⟩ (.func (.func 30) #[] #[.pointer (some ⟨b2, 0, none⟩), .pointer (some ⟨b5, 0, none⟩)]) rfl (fun w' hw' => by obtain ⟨M', hA, _⟩ := hw'; exact hA.f.cell 0) ?_
      simp only [Act.put, List.setIfInBounds_toArray, List.set_cons_succ, List.set_cons_zero]
      repeat (refine mix_w1 ?_; go_big_quiet_step (fail); refine wpQuiet_nil ?_)
      refine mix_k HC fun Q' hQ' => ?_
      go_wp2_with fail
      refine (HCT.out _ _ hk04.out.drew (HA4.out.kept (Kept.refl _ w4).drew)).mono ?_
      rintro e w5 ⟨rfl, M5, hA5, hk5⟩
      go_wp2_with fail
      refine hQ' _ _ ⟨M5, hA5, (Kept.refl _ w4).drew.trans hk5 (fun _ _ h => h)⟩ ?_
      clear hQ' Q' HC HCT
      have HK5 := Lib.hid (HK4.out.trans ((Kept.refl (fun k => k = m) w4).drew.trans hk5 (fun _ _ h => h)) (fun _ _ h => h))
      have HA5 := Lib.hid hA5
      clear hA5 hk5 HA4 HK4 hk04
      clear cp cl cj cad cm cf lp ls lf
      have cp := HA5.out.p.cell 0
      have cl : w5.cell? ⟨bw, 0, none⟩ = some (.slice a l.length c) := HA5.out.s.cell 0
      have cj : w5.cell? ⟨bw, 1, none⟩ = some (.func (.func R.fj) #[] #[]) := HA5.out.s.cell 1
      have cad : w5.cell? ⟨bw, 3, none⟩ = some (.func (.func R.fa) #[] #[]) := HA5.out.s.cell 3
      have cm : w5.cell? ⟨bw, 4, none⟩ = some (.map (some m)) := HA5.out.s.cell 4
      have cf := HA5.out.f.cell 0
      have lp := HA5.out.p.lt
      have ls := HA5.out.s.lt
      have lf := HA5.out.f.lt
      refine mix_t fun Q' hQ' => ?_
      go_wp2_with fail
      refine (HRA1.out _).mono ?_
      rintro e w5' ⟨rfl, rfl⟩
      go_wp2_with fail
      refine mix_w1 ?_; go_big_quiet_step (fail); refine wpQuiet_nil ?_
      refine mix_done ?_
      clear HRA1
      have hk05 : Kept (fun _ => False) w0 w5 := HK0.out.trans HK5.out (fun k hk e => by have e : k = m := e; omega)
      go_wp2_with fail
      refine (HNX.out w5 hk05).mono ?_
      rintro e w6 ⟨⟨n, nc, na, rfl, hN, hno⟩, hk6⟩
      have hn := Sl.len hN
      rw [List.length_map] at hn
      subst hn
      have HA6 := Lib.hid (HA5.out.kept hk6)
      have HK6 := Lib.hid (HK5.out.trans hk6 (fun _ _ h => h.elim))
      have hk06 := Lib.hid (hk05.trans hk6 (fun _ _ h => h))
      have hs6 := hk6.size
      have hml5 := HA5.out.m.lt
      clear cp cl cj cad cm cf lp ls lf
      clear HNX hk05 hk6 HA5 HK5
      have cp := HA6.out.p.cell 0
      have cl : w6.cell? ⟨bw, 0, none⟩ = some (.slice a l.length c) := HA6.out.s.cell 0
      have cj : w6.cell? ⟨bw, 1, none⟩ = some (.func (.func R.fj) #[] #[]) := HA6.out.s.cell 1
      have cad : w6.cell? ⟨bw, 3, none⟩ = some (.func (.func R.fa) #[] #[]) := HA6.out.s.cell 3
      have cm : w6.cell? ⟨bw, 4, none⟩ = some (.map (some m)) := HA6.out.s.cell 4
      have cf := HA6.out.f.cell 0
      have lp := HA6.out.p.lt
      have ls := HA6.out.s.lt
      have lf := HA6.out.f.lt
      match N, hnl with
      | [], _ =>
        have HVE : Hid (V i = cc) := Lib.hid HVV.out
        clear hN hno
        go_wp2_with (refine wpList_updI rfl (.tmp 89) (.tmp 90) (.tmp 91) 69 rfl Tryz.underlying69 Tryz.underlying3 HA6.out.m i (u64 (cc)) rfl rfl rfl ?_; intro w9 hm9 hk9)
        go_ret
        refine ⟨congrArg (fun n : Nat => Ending.returned (u64 n)) (HVE.out.symm), _, HA6.out.upd hk9 hm9 (fun j v hv => ?_), HK6.out.trans hk9 (fun _ _ h => h)⟩
        rw [lookI_updE] at hv
        split at hv
        · rename_i e
          have e : i = j := by omega
          subst e
          cases hv
          exact congrArg (fun n : Nat => u64 n) (HVE.out.symm)
        · exact HA6.out.ok j v hv
      | [j], _ =>
        obtain ⟨jn, rfl, hjr, hjk⟩ := HNR.out j (by simp)
        have HVE : Hid (V i = R.a cc (V jn)) := Lib.hid (by have := HVV.out; rwa [show nexC R V cc [(jn : Int)] = R.a cc (V jn) from by simp [nexC]] at this)
        obtain ⟨ng, ncap, hnv, hnc, hngl⟩ := Sl.some_ hN (by simp)
        cases hnv
        have hn0 := Ints.cell hN (i := 0) (x := (jn : Int)) rfl
        have HCJ := Lib.hid (HIH.out jn w6.drew _ hjk hjr hk06.out.drew (HA6.out.kept (Kept.refl _ w6).drew))
        have hvj := HVT.out jn
        have hvt := HTA.out cc (V jn) (by unfold top; omega) hvj
        have HRA2 := Lib.hid (fun W => HRA.out cc (V jn) W (by unfold top; omega) hvj)
        clear hN hno HIH HNR hnc hjk hjr HVV
        unfold top at hvj
        go_wp2_with fail
        refine wp_region_mix0 [.l, .w, .w, .l, .t, .w] (by kernel_rfl) (by kernel_rfl) ?_
        refine mix_load1 rfl rfl 56 (.tmp 2) rfl (fun w => by kernel_rfl) ⟨b5, 0, none⟩ (.func (.func 30) #[] #[.pointer (some ⟨b2, 0, none⟩), .pointer (some ⟨b5, 0, none⟩)]) rfl (fun w' hw' => by rw [hw']; exact cf) ?_
        simp only [Act.put, List.setIfInBounds_toArray, List.set_cons_succ, List.set_cons_zero]
        repeat (refine mix_w1 ?_; go_big_quiet_step (fail); refine wpQuiet_nil ?_)
        refine mix_load1 rfl rfl 3 (.tmp 60) rfl (fun w => by kernel_rfl) ⟨ng, 0, none⟩ (.int .i64 jn) rfl (fun w' hw' => by rw [hw']; exact hn0) ?_
        simp only [Act.put, List.setIfInBounds_toArray, List.set_cons_succ, List.set_cons_zero]
        refine mix_t fun Q' hQ' => ?_
        go_wp2_with fail
        refine HCJ.out.mono ?_
        rintro e w7 ⟨rfl, M7, hA7, hk7⟩
        go_wp2_with fail
        refine mix_w1 ?_; go_big_quiet_step (fail); refine wpQuiet_nil ?_
        refine mix_done ?_
        have HA7 := Lib.hid hA7
        have HK7 := Lib.hid (HK6.out.drew.trans hk7 (fun _ _ h => h))
        clear hA7 HCJ HA6 HK6
        clear hn0 hngl
        clear cp cl cj cad cm cf lp ls lf
        have cp := HA7.out.p.cell 0
        have cl : w7.cell? ⟨bw, 0, none⟩ = some (.slice a l.length c) := HA7.out.s.cell 0
        have cj : w7.cell? ⟨bw, 1, none⟩ = some (.func (.func R.fj) #[] #[]) := HA7.out.s.cell 1
        have cad : w7.cell? ⟨bw, 3, none⟩ = some (.func (.func R.fa) #[] #[]) := HA7.out.s.cell 3
        have cm : w7.cell? ⟨bw, 4, none⟩ = some (.map (some m)) := HA7.out.s.cell 4
        have cf := HA7.out.f.cell 0
        have lp := HA7.out.p.lt
        have ls := HA7.out.s.lt
        have lf := HA7.out.f.lt
        unfold top at hvt
        go_wp2_with fail
        refine (HRA2.out _).mono ?_
        rintro e w8 ⟨rfl, rfl⟩
        generalize R.a cc (V jn) = res at *
        go_wp2_with (refine wpList_updI rfl (.tmp 89) (.tmp 90) (.tmp 91) 69 rfl Tryz.underlying69 Tryz.underlying3 HA7.out.m i (u64 (res)) rfl rfl rfl ?_; intro w9 hm9 hk9)
        go_ret
        refine ⟨congrArg (fun n : Nat => Ending.returned (u64 n)) (HVE.out.symm), _, HA7.out.upd hk9 hm9 (fun j v hv => ?_), HK7.out.trans hk9 (fun _ _ h => h)⟩
        rw [lookI_updE] at hv
        split at hv
        · rename_i e
          have e : i = j := by omega
          subst e
          cases hv
          exact congrArg (fun n : Nat => u64 n) (HVE.out.symm)
        · exact HA7.out.ok j v hv
      | [j, k], _ =>
        obtain ⟨jn, rfl, hjr, hjk⟩ := HNR.out j (by simp)
        obtain ⟨kn, rfl, hkr, hkk⟩ := HNR.out k (by simp)
        have HVE : Hid (V i = R.a cc (R.j (V jn) (V kn))) := Lib.hid (by have := HVV.out; rwa [show nexC R V cc [(jn : Int), (kn : Int)] = R.a cc (R.j (V jn) (V kn)) from by simp [nexC]] at this)
        obtain ⟨ng, ncap, hnv, hnc, hngl⟩ := Sl.some_ hN (by simp)
        cases hnv
        have hn0 := Ints.cell hN (i := 0) (x := (jn : Int)) rfl
        have hn1 := Ints.cell hN (i := 1) (x := (kn : Int)) rfl
        have hnm : ng ≠ m := fun e => by have := hno ng rfl; omega
        have HCJ := Lib.hid (HIH.out jn w6.drew _ hjk hjr hk06.out.drew (HA6.out.kept (Kept.refl _ w6).drew))
        have HCK := Lib.hid (fun W M hk hA => HIH.out kn W M hkk hkr hk hA)
        have hvj := HVT.out jn
        have hvk := HVT.out kn
        have hvl := HTJ.out (V jn) (V kn) hvj hvk
        have hvt := HTA.out cc (R.j (V jn) (V kn)) (by unfold top; omega) hvl
        have HRJ2 := Lib.hid (fun W => HRJ.out (V jn) (V kn) W hvj hvk)
        have HRA2 := Lib.hid (fun W => HRA.out cc (R.j (V jn) (V kn)) W (by unfold top; omega) hvl)
        clear hN hno HIH HNR hnc hjk hjr HVV hkk hkr
        unfold top at hvj
        go_wp2_with fail
        refine wp_region_mix0 [.l, .w, .w, .l, .t, .w] (by kernel_rfl) (by kernel_rfl) ?_
        refine mix_load1 rfl rfl 56 (.tmp 2) rfl (fun w => by kernel_rfl) ⟨b5, 0, none⟩ (.func (.func 30) #[] #[.pointer (some ⟨b2, 0, none⟩), .pointer (some ⟨b5, 0, none⟩)]) rfl (fun w' hw' => by rw [hw']; exact cf) ?_
        simp only [Act.put, List.setIfInBounds_toArray, List.set_cons_succ, List.set_cons_zero]
        repeat (refine mix_w1 ?_; go_big_quiet_step (fail); refine wpQuiet_nil ?_)
        refine mix_load1 rfl rfl 3 (.tmp 60) rfl (fun w => by kernel_rfl) ⟨ng, 0, none⟩ (.int .i64 jn) rfl (fun w' hw' => by rw [hw']; exact hn0) ?_
        simp only [Act.put, List.setIfInBounds_toArray, List.set_cons_succ, List.set_cons_zero]
        refine mix_t fun Q' hQ' => ?_
        go_wp2_with fail
        refine HCJ.out.mono ?_
        rintro e w7 ⟨rfl, M7, hA7, hk7⟩
        go_wp2_with fail
        refine mix_w1 ?_; go_big_quiet_step (fail); refine wpQuiet_nil ?_
        refine mix_done ?_
        have HA7 := Lib.hid hA7
        have HK7 := Lib.hid (HK6.out.drew.trans hk7 (fun _ _ h => h))
        clear hA7 HCJ HA6 HK6
        have hn1' : w7.cell? ⟨ng, 1, none⟩ = some (.int .i64 kn) := (hk7.cell (p := ⟨ng, 1, none⟩) hngl hnm).trans hn1
        have hngl7 := Nat.lt_of_lt_of_le hngl hk7.size
        have hk07 := hk06.out.drew.trans hk7 (fun k hk e => by have e : k = m := e; omega)
        clear hn0 hn1 hngl
        clear cp cl cj cad cm cf lp ls lf
        have cp := HA7.out.p.cell 0
        have cl : w7.cell? ⟨bw, 0, none⟩ = some (.slice a l.length c) := HA7.out.s.cell 0
        have cj : w7.cell? ⟨bw, 1, none⟩ = some (.func (.func R.fj) #[] #[]) := HA7.out.s.cell 1
        have cad : w7.cell? ⟨bw, 3, none⟩ = some (.func (.func R.fa) #[] #[]) := HA7.out.s.cell 3
        have cm : w7.cell? ⟨bw, 4, none⟩ = some (.map (some m)) := HA7.out.s.cell 4
        have cf := HA7.out.f.cell 0
        have lp := HA7.out.p.lt
        have ls := HA7.out.s.lt
        have lf := HA7.out.f.lt
        unfold top at hvk hvl hvt
        go_wp2_with fail
        refine wp_region_mix [.l, .w, .w, .w, .l, .w, .l, .w, .w, .l, .k, .t, .w] (by kernel_rfl) (by kernel_rfl) (fun W => ∃ M', AM b2 b5 bw m a l.length c R V W M' ∧ Kept (fun k => k = m) w7 W) ?_
        have HC : ∃ M', AM b2 b5 bw m a l.length c R V w7.drew M' ∧ Kept (fun k => k = m) w7 w7.drew := ⟨_, HA7.out.kept (Kept.refl _ w7).drew, (Kept.refl _ w7).drew⟩
        refine mix_load1 HC rfl 52 (.tmp 1) rfl (fun w => by kernel_rfl) ⟨b2, 0, none⟩ (.pointer (some ⟨bw, 0, none⟩)) rfl (fun w' hw' => by obtain ⟨M', hA, _⟩ := hw'; exact hA.p.cell 0) ?_
        simp only [Act.put, List.setIfInBounds_toArray, List.set_cons_succ, List.set_cons_zero]
        repeat (refine mix_w1 ?_; go_big_quiet_step (fail); refine wpQuiet_nil ?_)
        refine mix_load1 HC rfl 49 (.tmp 69) rfl (fun w => by kernel_rfl) ⟨bw, 1, none⟩ (.func (.func R.fj) #[] #[]) rfl (fun w' hw' => by obtain ⟨M', hA, _⟩ := hw'; exact hA.s.cell 1) ?_
        simp only [Act.put, List.setIfInBounds_toArray, List.set_cons_succ, List.set_cons_zero]
        repeat (refine mix_w1 ?_; go_big_quiet_step (fail); refine wpQuiet_nil ?_)
        refine mix_load1 HC rfl 56 (.tmp 2) rfl (fun w => by kernel_rfl) ⟨b5, 0, none⟩ (.func (.func 30) #[] #[.pointer (some ⟨b2, 0, none⟩), .pointer (some ⟨b5, 0, none⟩)]) rfl (fun w' hw' => by obtain ⟨M', hA, _⟩ := hw'; exact hA.f.cell 0) ?_
        simp only [Act.put, List.setIfInBounds_toArray, List.set_cons_succ, List.set_cons_zero]
        repeat (refine mix_w1 ?_; go_big_quiet_step (fail); refine wpQuiet_nil ?_)
        refine mix_load1 HC rfl 3 (.tmp 74) rfl (fun w => by kernel_rfl) ⟨ng, 1, none⟩ (.int .i64 kn) rfl (fun w' hw' => by obtain ⟨M', _, hk⟩ := hw'; exact (hk.cell (p := ⟨ng, 1, none⟩) hngl7 hnm).trans hn1') ?_
        simp only [Act.put, List.setIfInBounds_toArray, List.set_cons_succ, List.set_cons_zero]
        refine mix_k HC fun Q' hQ' => ?_
        go_wp2_with fail
        refine (HCK.out _ _ hk07.drew (HA7.out.kept (Kept.refl _ w7).drew)).mono ?_
        rintro e w8 ⟨rfl, M8, hA8, hk8⟩
        go_wp2_with fail
        refine hQ' _ _ ⟨M8, hA8, (Kept.refl _ w7).drew.trans hk8 (fun _ _ h => h)⟩ ?_
        clear hQ' Q' HC HCK
        have HK8 := Lib.hid (HK7.out.trans ((Kept.refl (fun k => k = m) w7).drew.trans hk8 (fun _ _ h => h)) (fun _ _ h => h))
        have HA8 := Lib.hid hA8
        clear hA8 hk8 hn1'
        clear cp cl cj cad cm cf lp ls lf
        have cp := HA8.out.p.cell 0
        have cl : w8.cell? ⟨bw, 0, none⟩ = some (.slice a l.length c) := HA8.out.s.cell 0
        have cj : w8.cell? ⟨bw, 1, none⟩ = some (.func (.func R.fj) #[] #[]) := HA8.out.s.cell 1
        have cad : w8.cell? ⟨bw, 3, none⟩ = some (.func (.func R.fa) #[] #[]) := HA8.out.s.cell 3
        have cm : w8.cell? ⟨bw, 4, none⟩ = some (.map (some m)) := HA8.out.s.cell 4
        have cf := HA8.out.f.cell 0
        have lp := HA8.out.p.lt
        have ls := HA8.out.s.lt
        have lf := HA8.out.f.lt
        refine mix_t fun Q' hQ' => ?_
        go_wp2_with fail
        refine (HRJ2.out _).mono ?_
        rintro e w8' ⟨rfl, rfl⟩
        go_wp2_with fail
        refine mix_w1 ?_; go_big_quiet_step (fail); refine wpQuiet_nil ?_
        refine mix_done ?_
        generalize R.j (V jn) (V kn) = jj at *
        go_wp2_with fail
        refine (HRA2.out _).mono ?_
        rintro e w8' ⟨rfl, rfl⟩
        generalize R.a cc jj = res at *
        go_wp2_with (refine wpList_updI rfl (.tmp 89) (.tmp 90) (.tmp 91) 69 rfl Tryz.underlying69 Tryz.underlying3 HA8.out.m i (u64 (res)) rfl rfl rfl ?_; intro w9 hm9 hk9)
        go_ret
        refine ⟨congrArg (fun n : Nat => Ending.returned (u64 n)) (HVE.out.symm), _, HA8.out.upd hk9 hm9 (fun j v hv => ?_), HK8.out.trans hk9 (fun _ _ h => h)⟩
        rw [lookI_updE] at hv
        split at hv
        · rename_i e
          have e : i = j := by omega
          subst e
          cases hv
          exact congrArg (fun n : Nat => u64 n) (HVE.out.symm)
        · exact HA8.out.ok j v hv
      | _ :: _ :: _ :: _, h => exact absurd h (by simp)

end Go.Proofs.YtlkgmcacbfoijaaGreat

