import Derived.Laws.CopyOwn
import Derived.Test.YtdchmelgaljpfaaGreatJm
import Derived.Test.YtdchmelgaljpfaaGreatJp
import Derived.Test.YtdchmelgaljpfaaGreatJs
import Derived.Test.YtdchmelgaljpfaaGreatKc
import Derived.Test.YtdchmelgaljpfaaGreatKe
import Derived.Test.YtdchmelgaljpfaaGreatMem
set_option linter.unusedSimpArgs false
set_option linter.unusedVariables false
namespace Go.Proofs.YtdchmelgaljpfaaGreat
open Go.RowKit

/-! ### registers as rows of bits -/
def bitN (n : Int) : Nat := 2 ^ n.toNat
theorem bitN_lt {n : Int} (h : n ≤ 10) : bitN n < 2048 := by
  unfold bitN
  have h2 : n.toNat ≤ 10 := by omega
  have := Nat.pow_le_pow_right (n := 2) (by omega) h2
  omega
theorem eleven {n : Int} (h : 0 ≤ n ∧ n ≤ 10) : n = 0 ∨ n = 1 ∨ n = 2 ∨ n = 3 ∨ n = 4 ∨ n = 5 ∨ n = 6 ∨ n = 7 ∨ n = 8 ∨ n = 9 ∨ n = 10 := by omega
set_option maxHeartbeats 2000000 in
theorem lbit_any (n : Int) (w : World) (h : 0 ≤ n ∧ n ≤ 10) : Calls Tryz.prog 190 #[.int .u8 n] w fun e w' => e = .returned (.int .u16 (bitN n)) ∧ w = w' := by
  rcases eleven h with rfl | rfl | rfl | rfl | rfl | rfl | rfl | rfl | rfl | rfl | rfl
  all_goals
    go_enter Tryz.func190, Tryz.ntmps190
    go_wp2_with fail
    go_ret
    exact ⟨rfl, rfl⟩
def secN (x : In) : Nat := if xB x = true then bitN x.src else 0
/-- an operation that is known, of registers that there are -/
def rightB (x : In) : Bool := knownB x && (decide (x.dst ≤ 10) && decide (x.src ≤ 10))
set_option maxHeartbeats 2000000 in
theorem lright_any (x : In) (w : World) (hx : InOk x) : Calls Tryz.prog 152 #[.agg (inVals x)] w fun e w' => e = .returned (.bool (rightB x)) ∧ Kept (fun _ => False) w w' := by
  have HK := Lib.hid (fun W => known1_any x W hx)
  obtain ⟨r, hr⟩ : ∃ r, rightB x = r := ⟨_, rfl⟩
  rw [hr]
  unfold rightB at hr
  generalize knownB x = kn at *
  have hBn := Blk.new w 75 (inVals x)
  have hKn : Kept (fun _ => False) w (w.alloc (.cells (inVals x) 75)) := (Kept.refl _ w).alloc _
  cases kn <;> cases h1 : decide (x.dst ≤ 10) <;> cases h2 : decide (x.src ≤ 10)
  all_goals
    simp only [h1, h2, Bool.true_and, Bool.false_and, Bool.and_true, Bool.and_false, Bool.and_self] at hr
    subst hr
    go_enter Tryz.func152, Tryz.ntmps152
    go_wp2_with fail
    refine (HK.out _).mono ?_
    rintro e w1 ⟨rfl, hk1⟩
    have hb1 := hk1.blk (fun h => h) hBn
    have x1 := hb1.cell 1
    have x2 := hb1.cell 2
    go_wp2_with fail
    go_ret
    exact ⟨rfl, hKn.trans hk1 (fun _ _ h => h)⟩
/-- what an operation writes -/
def writesN (x : In) : Nat := if writesB x = true then bitN x.dst else if (x.op == 133) = true then 63 else 0
set_option maxHeartbeats 4000000 in
theorem lwrites_any (x : In) (w : World) (hx : InOk x) (hd : x.dst ≤ 10) : Calls Tryz.prog 153 #[.agg (inVals x)] w fun e w' => e = .returned (.int .u16 (writesN x)) ∧ w' = w.alloc (.cells (inVals x) 75) := by
  have h7 := and7 hx.op
  have HB := Lib.hid (fun W => lbit_any x.dst W ⟨hx.dst.1, hd⟩)
  obtain ⟨r, hr⟩ : ∃ r, writesN x = r := ⟨_, rfl⟩
  rw [hr]
  unfold writesN writesB clsI at hr
  generalize bitN x.dst = bd at *
  generalize x.op % 8 = cl at *
  have hc : (cl == 0) = true ∨ (cl == 0) = false ∧ (cl == 1) = true ∨ (cl == 0) = false ∧ (cl == 1) = false ∧ (cl == 4) = true ∨ (cl == 0) = false ∧ (cl == 1) = false ∧ (cl == 4) = false ∧ (cl == 7) = true ∨ (cl == 0) = false ∧ (cl == 1) = false ∧ (cl == 4) = false ∧ (cl == 7) = false := by
    cases (cl == 0) <;> cases (cl == 1) <;> cases (cl == 4) <;> cases (cl == 7) <;> simp
  have HR := Lib.hid hr
  clear hr
  cases h133 : (x.op == 133)
  all_goals
    have h133d := h133
    rcases hc with q0 | ⟨q0, q1⟩ | ⟨q0, q1, q4⟩ | ⟨q0, q1, q4, q7⟩ | ⟨q0, q1, q4, q7⟩
    all_goals
      have hr := HR.out
      try simp only [q0] at hr
      try simp only [q1] at hr
      try simp only [q4] at hr
      try simp only [q7] at hr
      simp only [h133, Bool.true_or, Bool.false_or, Bool.or_true, Bool.or_false, Bool.or_self, if_true, if_false, Bool.false_eq_true] at hr
      subst hr
      clear HR
      go_enter Tryz.func153, Tryz.ntmps153
      go_wp2_with (go_at_call 190; refine (HB.out _).mono ?_; rintro e w2 ⟨rfl, rfl⟩)
      go_ret
      exact ⟨rfl, rfl⟩


open Go.RowKit

/-! ### helpers -/
section
variable {P : Program} {w : World} {ops : Array Oper} {rest : List Oper} {o : Oper} {a : Act} {Q : Exit → Act → World → Prop}
end
set_option linter.unusedSimpArgs false
set_option linter.unusedVariables false
open Go.RowKit

/-! ### the table of helpers -/
section
variable {P : Program} {w : World} {ops : Array Oper} {rest : List Oper} {o : Oper} {a : Act} {Q : Exit → Act → World → Prop}
end
set_option linter.unusedSimpArgs false
set_option linter.unusedVariables false
open Go.RowKit

open Go.RowKit

/-! ### proto.Of -/
section
variable {P : Program} {w : World} {ops : Array Oper} {rest : List Oper} {o : Oper} {a : Act} {Q : Exit → Act → World → Prop}
end
open Go.RowKit

/-! ### rows of sixteen bits -/
/-- a row without those of another one -/
def lessN (a b : Nat) : Nat := a &&& (65535 - b)
theorem or_lt {a b : Nat} (ha : a < 65536) (hb : b < 65536) : a ||| b < 65536 := Nat.or_lt_two_pow (n := 16) (by omega) (by omega)
theorem less_lt {a b : Nat} (ha : a < 65536) : lessN a b < 65536 := by
  unfold lessN
  exact Nat.lt_of_le_of_lt Nat.and_le_left ha
theorem secN_lt (x : In) (h : x.src ≤ 10) : secN x < 2048 := by
  unfold secN
  split
  · exact bitN_lt h
  · omega

/-! ### what a call of a helper reads -/
/-- the numbers of a helper's arguments -/
def cntN (n : Nat) : Nat := match n with
  | 1 => 2
  | 2 => 4
  | 3 => 2
  | 6 => 3
  | 7 => 3
  | 8 => 3
  | 9 => 2
  | 10 => 1
  | 11 => 1
  | 12 => 1
  | 13 => 3
  | 14 => 1
  | 15 => 2
  | 16 => 2
  | 17 => 2
  | 18 => 1
  | 19 => 3
  | 20 => 1
  | 21 => 1
  | 22 => 3
  | 23 => 4
  | 24 => 4
  | 25 => 3
  | 26 => 3
  | 27 => 1
  | 28 => 1
  | _ => 0
def protN (n : Int) : Nat := 2 ^ (cntN n.toNat + 1) - 2
theorem cntN_le (n : Nat) : cntN n ≤ 4 := by
  unfold cntN
  split <;> omega
theorem protN_lt (n : Int) : protN n < 65536 := by
  have h := cntN_le n.toNat
  have := Nat.pow_le_pow_right (n := 2) (by omega) (show cntN n.toNat + 1 ≤ 5 by omega)
  unfold protN
  omega
set_option linter.unusedSimpArgs false
set_option linter.unusedVariables false
open Go.RowKit

/-! ### what a jump, an exit, a call reads -/
def jumpN (x : In) : Nat := if (x.op == 149) = true then bitN 0 else if (x.op == 5) = true then 0 else if (x.op != 133) = true then bitN x.dst ||| secN x else if (x.src == 1) = true then 62 else protN x.imm
set_option linter.unusedSimpArgs false
set_option linter.unusedVariables false
open Go.RowKit

/-! ### what an operation reads -/
def readsN (x : In) : Nat := if (clsI x == 1) = true then bitN x.src else if (clsI x == 2) = true then bitN x.dst else if (clsI x == 3) = true then bitN x.dst ||| bitN x.src
  else if (clsI x == 4 || clsI x == 7) = true then (if (codeI x == 13) = true then bitN x.dst else if (codeI x == 11) = true then secN x else bitN x.dst ||| secN x)
  else if (clsI x == 6) = true then bitN x.dst ||| secN x else if (clsI x == 0) = true then 0 else jumpN x
theorem jumpN_lt (x : In) (hd : x.dst ≤ 10) (hs : x.src ≤ 10) : jumpN x < 65536 := by
  have h1 := bitN_lt hd
  have h2 := secN_lt x hs
  have h3 := protN_lt x.imm
  have h4 : bitN x.dst ||| secN x < 65536 := or_lt (by omega) (by omega)
  have h5 : bitN 0 = 1 := rfl
  unfold jumpN
  split
  · omega
  · split
    · omega
    · split
      · exact h4
      · split <;> omega
theorem readsN_lt (x : In) (hd : x.dst ≤ 10) (hs : x.src ≤ 10) : readsN x < 65536 := by
  have h1 := bitN_lt hd
  have h2 := secN_lt x hs
  have h3 := bitN_lt hs
  have h4 : bitN x.dst ||| secN x < 65536 := or_lt (by omega) (by omega)
  have h5 : bitN x.dst ||| bitN x.src < 65536 := or_lt (by omega) (by omega)
  have h6 := jumpN_lt x hd hs
  unfold readsN
  repeat (first | omega | exact h4 | exact h5 | split)
theorem rightB_regs {x : In} (h : rightB x = true) : x.dst ≤ 10 ∧ x.src ≤ 10 := by
  unfold rightB at h
  simp at h
  exact h.2
def writesR (x : In) : Nat := if rightB x = true then writesN x else 0
set_option maxHeartbeats 4000000 in
theorem lWrites_any (x : In) (w : World) (hx : InOk x) : Calls Tryz.prog 113 #[.agg (inVals x)] w fun e w' => e = .returned (.tuple #[.int .u16 (writesR x), .bool (rightB x)]) ∧ Kept (fun _ => False) w w' := by
  have HR := Lib.hid (fun W => lright_any x W hx)
  have HI := Lib.hid (fun (h : rightB x = true) W => lwrites_any x W hx (rightB_regs h).1)
  have hbB := Blk.new w 75 (inVals x)
  have hkB : Kept (fun _ => False) w (w.alloc (.cells (inVals x) 75)) := (Kept.refl _ w).alloc _
  unfold writesR
  cases h : rightB x
  case false =>
    rw [h] at HR
    simp only [if_false, Bool.false_eq_true]
    clear HI h
    go_enter Tryz.func113, Tryz.ntmps113
    go_wp2_with fail
    refine (HR.out _).mono ?_
    rintro e w1 ⟨rfl, hk1⟩
    go_wp2_with fail
    go_ret2
    exact ⟨rfl, hkB.trans hk1 (fun _ _ h => h)⟩
  case true =>
    have HI2 := Lib.hid (HI.out h)
    rw [h] at HR
    simp only [if_true]
    clear HI h
    go_enter Tryz.func113, Tryz.ntmps113
    go_wp2_with fail
    refine (HR.out _).mono ?_
    rintro e w1 ⟨rfl, hk1⟩
    have hb1 := hk1.blk (fun h => h) hbB
    have x0 := hb1.cell 0
    have x1 := hb1.cell 1
    have x2 := hb1.cell 2
    have x3 := hb1.cell 3
    have x4 := hb1.cell 4
    go_wp2_with fail
    refine (HI2.out _).mono ?_
    rintro e w2 ⟨rfl, rfl⟩
    go_wp2_with fail
    go_ret2
    exact ⟨rfl, (hkB.trans hk1 (fun _ _ h => h)).alloc _⟩


open Go.RowKit

/-! ### the document's helpers -/
set_option linter.unusedSimpArgs false
set_option linter.unusedVariables false
open Go.RowKit

/-! ### the document's Reads and Writes -/
open Go.RowKit

/-! ### what the document says an operation writes -/
/-! ### live.next -/
set_option linter.unusedSimpArgs false
set_option linter.unusedVariables false
open Go.RowKit

/-! ### rows of bits, in plain -/
/-- each bit of a is one of b -/
def Sb (a b : Nat) : Prop := ∀ k, a.testBit k = true → b.testBit k = true
theorem Sb.refl (a : Nat) : Sb a a := fun _ h => h
theorem Sb.trans {a b c : Nat} (h : Sb a b) (g : Sb b c) : Sb a c := fun k hk => g k (h k hk)
theorem Sb.zero (b : Nat) : Sb 0 b := fun k hk => by simp at hk
theorem Sb.antisymm {a b : Nat} (h : Sb a b) (g : Sb b a) : a = b := Nat.eq_of_testBit_eq fun k => by
  cases ha : a.testBit k <;> cases hb : b.testBit k
  · rfl
  · rw [g k hb] at ha; cases ha
  · rw [h k ha] at hb; cases hb
  · rfl
theorem Sb.or_eq {a b : Nat} (h : Sb a b) : a ||| b = b := Nat.eq_of_testBit_eq fun k => by
  rw [Nat.testBit_or]
  cases ha : a.testBit k
  · simp
  · rw [h k ha]; rfl
theorem Sb.le {a b : Nat} (h : Sb a b) : a ≤ b := by
  rw [← h.or_eq]
  exact Nat.left_le_or
theorem Sb.or {a b c d : Nat} (h : Sb a b) (g : Sb c d) : Sb (a ||| c) (b ||| d) := fun k hk => by
  rw [Nat.testBit_or, Bool.or_eq_true] at hk ⊢
  exact hk.imp (h k) (g k)
theorem Sb.and {a b : Nat} (h : Sb a b) (m : Nat) : Sb (a &&& m) (b &&& m) := fun k hk => by
  rw [Nat.testBit_and, Bool.and_eq_true] at hk ⊢
  exact ⟨h k hk.1, hk.2⟩
theorem Sb.less {a b : Nat} (h : Sb a b) (m : Nat) : Sb (lessN a m) (lessN b m) := h.and _

/-- what is live at one of the slots of a list -/
def behN (L : List Nat) : List Int → Nat
  | [] => 0
  | t :: r => L.getD t.toNat 0 ||| behN L r
theorem behN_bit {L : List Nat} {N : List Int} {k : Nat} : (behN L N).testBit k = true ↔ ∃ t ∈ N, (L.getD t.toNat 0).testBit k = true := by
  induction N with
  | nil => simp [behN]
  | cons t r ih => simp only [behN, Nat.testBit_or, Bool.or_eq_true, ih, List.mem_cons, exists_eq_or_imp]
theorem behN_lt {L : List Nat} (h : ∀ v ∈ L, v < 65536) (N : List Int) : behN L N < 65536 := by
  induction N with
  | nil => simp [behN]
  | cons t r ih =>
    refine or_lt ?_ ih
    rw [List.getD_eq_getElem?_getD]
    cases e : L[t.toNat]? with
    | none => simp
    | some v => exact h v (List.mem_of_getElem? e)
theorem behN_mono {L M : List Nat} (h : ∀ (i v u : Nat), L[i]? = some v → M[i]? = some u → Sb v u) (hl : L.length = M.length) (N : List Int) : Sb (behN L N) (behN M N) := fun k hk => by
  rw [behN_bit] at hk ⊢
  obtain ⟨t, ht, hb⟩ := hk
  refine ⟨t, ht, ?_⟩
  rw [List.getD_eq_getElem?_getD] at hb ⊢
  cases e : L[t.toNat]? with
  | none => rw [e] at hb; simp at hb
  | some v =>
    have hlt := (List.getElem?_eq_some_iff.1 e).1
    have e2 : M[t.toNat]? = some M[t.toNat] := List.getElem?_eq_getElem (by omega)
    rw [e] at hb
    rw [e2]
    exact h _ _ _ e e2 k hb
/-- what is live at a slot, told by what is live at the next ones -/
def newN (L : List Nat) (i : Nat) (x : In) : Nat := readsN x ||| lessN (behN L (nextC i x)) (writesN x)
theorem newN_mono {L M : List Nat} (h : ∀ (i v u : Nat), L[i]? = some v → M[i]? = some u → Sb v u) (hl : L.length = M.length) (i : Nat) (x : In) : Sb (newN L i x) (newN M i x) := (Sb.refl _).or ((behN_mono h hl _).less _)
theorem right_of {l : List In} (h : checkI l = 0) {i : Nat} {x : In} (hx : l[i]? = some x) (hs : (secL l)[i]? = some false) : rightB x = true := by
  obtain ⟨h1, _⟩ := check_parts h
  obtain ⟨_, _, h3⟩ := slots_zero h1
  have := h3 i (List.getElem?_eq_some_iff.1 hx).1
  rw [slot_wrong hx hs] at this
  obtain ⟨hk, hr, _⟩ := wrong_rest this
  unfold rightB
  rw [hk]
  simp at hr ⊢
  omega
theorem right_known {x : In} (h : rightB x = true) : knownB x = true := by
  unfold rightB at h
  simp at h
  exact h.1
theorem newN_lt {L : List Nat} (h : ∀ v ∈ L, v < 65536) {x : In} (hr : rightB x = true) (i : Nat) : newN L i x < 65536 := by
  obtain ⟨h1, h2⟩ := rightB_regs hr
  exact or_lt (readsN_lt x h1 h2) (less_lt (behN_lt h _))

/-! ### the least rows -/
def PostF (l : List In) (R : List Nat) : Prop := R.length = l.length ∧ ∀ (i : Nat) (x : In) (u : Nat), l[i]? = some x → (secL l)[i]? = some false → R[i]? = some u → Sb (newN R i x) u
structure LInv (l : List In) (L : List Nat) : Prop where
  len : L.length = l.length
  lt : ∀ v ∈ L, v < 65536
  sec : ∀ i : Nat, (secL l)[i]? = some true → L[i]? = some 0
  inc : ∀ (i : Nat) (x : In) (v : Nat), l[i]? = some x → (secL l)[i]? = some false → L[i]? = some v → Sb v (newN L i x)
  least : ∀ R, PostF l R → ∀ (i v u : Nat), L[i]? = some v → R[i]? = some u → Sb v u
structure LiveIs (l : List In) (L : List Nat) : Prop where
  len : L.length = l.length
  lt : ∀ v ∈ L, v < 65536
  sec : ∀ i : Nat, (secL l)[i]? = some true → L[i]? = some 0
  fix : ∀ (i : Nat) (x : In), l[i]? = some x → (secL l)[i]? = some false → L[i]? = some (newN L i x)
  least : ∀ R, PostF l R → ∀ (i v u : Nat), L[i]? = some v → R[i]? = some u → Sb v u
theorem LInv.start (l : List In) : LInv l (List.replicate l.length 0) where
  len := by simp
  lt := fun v hv => by rw [(List.mem_replicate.1 hv).2]; omega
  sec := fun i hi => by
    have := (List.getElem?_eq_some_iff.1 hi).1
    rw [sec_len] at this
    rw [List.getElem?_replicate, if_pos this]
  inc := fun i x v _ _ hv => by
    rw [(List.mem_replicate.1 (List.mem_of_getElem? hv)).2]
    exact Sb.zero _
  least := fun R _ i v u hv _ => by
    rw [(List.mem_replicate.1 (List.mem_of_getElem? hv)).2]
    exact Sb.zero _
theorem set_up {L : List Nat} {i v0 v : Nat} (h0 : L[i]? = some v0) (h : Sb v0 v) : ∀ (j a b : Nat), L[j]? = some a → (L.set i v)[j]? = some b → Sb a b := fun j a b ha hb => by
  rw [List.getElem?_set] at hb
  split at hb
  · rename_i e
    subst e
    split at hb
    · rw [h0] at ha
      cases ha
      cases hb
      exact h
    · cases hb
  · rw [ha] at hb
    cases hb
    exact Sb.refl _
theorem LInv.step {l : List In} {L : List Nat} (h : LInv l L) {i : Nat} {x : In} (hx : l[i]? = some x) (hs : (secL l)[i]? = some false) (hr : rightB x = true) : LInv l (L.set i (newN L i x)) := by
  have hi := (List.getElem?_eq_some_iff.1 hx).1
  obtain ⟨v0, hg⟩ : ∃ v0, L[i]? = some v0 := ⟨_, List.getElem?_eq_getElem (by rw [h.len]; exact hi)⟩
  have hup := set_up hg (h.inc i x _ hx hs hg)
  refine ⟨by rw [List.length_set, h.len], fun v hv => ?_, fun j hj => ?_, fun j y v hy hsj hv => ?_, fun R hR j v u hv hu => ?_⟩
  · rcases List.mem_or_eq_of_mem_set hv with hv | rfl
    · exact h.lt v hv
    · exact newN_lt h.lt hr i
  · have hne : i ≠ j := fun e => by subst e; rw [hs] at hj; cases hj
    rw [List.getElem?_set_ne hne]
    exact h.sec j hj
  · have hm : Sb (newN L j y) (newN (L.set i (newN L i x)) j y) := newN_mono hup (by simp) j y
    by_cases e : i = j
    · subst e
      rw [List.getElem?_set_self (by rw [h.len]; exact hi)] at hv
      rw [hx] at hy
      cases hy
      cases hv
      exact hm
    · rw [List.getElem?_set_ne e] at hv
      exact (h.inc j y v hy hsj hv).trans hm
  · by_cases e : i = j
    · subst e
      rw [List.getElem?_set_self (by rw [h.len]; exact hi)] at hv
      cases hv
      exact (newN_mono (h.least R hR) (by rw [h.len, hR.1]) i x).trans (hR.2 i x u hx hs hu)
    · rw [List.getElem?_set_ne e] at hv
      exact h.least R hR j v u hv hu
theorem LInv.up {l : List In} {L : List Nat} (h : LInv l L) {i : Nat} {x : In} {v : Nat} (hx : l[i]? = some x) (hs : (secL l)[i]? = some false) (hv : L[i]? = some v) : v ||| newN L i x = newN L i x ∧ v ≤ newN L i x :=
  ⟨(h.inc i x v hx hs hv).or_eq, (h.inc i x v hx hs hv).le⟩
theorem LiveIs.of {l : List In} {L : List Nat} (h : LInv l L) (hf : ∀ (i : Nat) (x : In), l[i]? = some x → (secL l)[i]? = some false → L[i]? = some (newN L i x)) : LiveIs l L := ⟨h.len, h.lt, h.sec, hf, h.least⟩
theorem LiveIs.post {l : List In} {L : List Nat} (h : LiveIs l L) : PostF l L := ⟨h.len, fun i x u hx hs hu => by
  rw [h.fix i x hx hs] at hu
  cases hu
  exact Sb.refl _⟩
theorem LiveIs.unique {l : List In} {L M : List Nat} (h : LiveIs l L) (k : LiveIs l M) : L = M := by
  refine List.ext_getElem (by rw [h.len, k.len]) fun i h1 h2 => ?_
  exact (h.least M k.post i _ _ (List.getElem?_eq_getElem h1) (List.getElem?_eq_getElem h2)).antisymm (k.least L h.post i _ _ (List.getElem?_eq_getElem h2) (List.getElem?_eq_getElem h1))



end Go.Proofs.YtdchmelgaljpfaaGreat
