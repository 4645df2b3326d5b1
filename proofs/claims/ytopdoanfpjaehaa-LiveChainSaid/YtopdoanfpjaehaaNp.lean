import Derived.Test.YtopdoanfpjaehaaNj
import Derived.Test.YtopdoanfpjaehaaKe
import Derived.Test.YtopdoanfpjaehaaKc
set_option linter.unusedSimpArgs false
set_option linter.unusedVariables false
namespace Go.Proofs.Ytopdoanfpjaehaa
open Go.RowKit

/-! ### what the document says an operation writes -/
set_option maxHeartbeats 8000000 in
set_option maxRecDepth 100000 in
theorem rWrites_any (x : In) (w : World) (hx : InOk x) : Calls Try.prog 12 #[.agg (inVals x)] w fun e w' => e = .returned (.tuple #[.int .u16 (writesR x), .bool (rightB x)]) ∧ Kept (fun _ => False) w w' := by
  have HR := Lib.hid (fun W => rReads_any x W hx)
  have HW := Lib.hid (fun W => rwrites_any x W hx)
  have HI := Lib.hid (fun W => ris_any x 8 W hx)
  have hbB := Blk.new w 26 (inVals x)
  have hkB : Kept (fun _ => False) w (w.alloc (.cells (inVals x) 26)) := (Kept.refl _ w).alloc _
  obtain ⟨rr, hrr⟩ : ∃ rr, readsR x = rr := ⟨_, rfl⟩
  rw [hrr] at HR
  clear hrr
  cases hr : rightB x
  case false =>
    have e0 : writesR x = 0 := by unfold writesR; rw [if_neg (by rw [hr]; decide)]
    rw [e0]
    rw [hr] at HR
    clear hr e0
    go_enter Try.func12, Try.ntmps12
    go_wp2_with fail
    refine (HR.out _).mono ?_
    rintro e w1 ⟨rfl, hk1⟩
    go_wp2_with fail
    go_ret2
    exact ⟨rfl, hkB.trans hk1 (fun _ _ h => h)⟩
  case true =>
    have er : writesR x = writesN x := by unfold writesR; rw [if_pos hr]
    rw [er]
    obtain ⟨hd, hs⟩ := rightB_regs hr
    have hkn : knownB x = true := by
      unfold rightB at hr
      simp at hr
      exact hr.1
    have HD := Lib.hid (fun W => rbit_any x.dst W ⟨hx.dst.1, hd⟩)
    rw [isR8 hx hkn] at HI
    rw [hr] at HR
    obtain ⟨r, hrn⟩ : ∃ r, writesN x = r := ⟨_, rfl⟩
    rw [hrn]
    unfold writesN at hrn
    obtain ⟨wb, hwb⟩ : ∃ wb, writesB x = wb := ⟨_, rfl⟩
    rw [hwb] at hrn HW
    clear er hr hkn hwb
    cases wb
    case true =>
      rw [if_pos rfl] at hrn
      subst hrn
      go_enter Try.func12, Try.ntmps12
      go_wp2_with fail
      refine (HR.out _).mono ?_
      rintro e w1 ⟨rfl, hk1⟩
      have hb1 := hk1.blk (fun h => h) hbB
      have hK1 := hkB.trans hk1 (fun _ _ h => h)
      have x0 := hb1.cell 0
      have x1 := hb1.cell 1
      have x2 := hb1.cell 2
      have x3 := hb1.cell 3
      have x4 := hb1.cell 4
      go_wp2_with fail
      refine (HW.out _).mono ?_
      rintro e w2 ⟨rfl, hk2⟩
      have hK2 := hK1.trans hk2 (fun _ _ h => h)
      have hb2 := hk2.blk (fun h => h) hb1
      clear x0 x1 x2 x3 x4
      have x1 := hb2.cell 1
      go_wp2_with (go_at_call 27; refine (HD.out _).mono ?_; rintro e w4 ⟨rfl, rfl⟩)
      go_ret2
      exact ⟨rfl, hK2⟩
    case false =>
      rw [if_neg (by decide)] at hrn
      cases h133 : (x.op == 133)
      all_goals
        rw [h133] at hrn HI
        simp only [if_true, if_false, Bool.false_eq_true] at hrn
        subst hrn
        go_enter Try.func12, Try.ntmps12
        go_wp2_with fail
        refine (HR.out _).mono ?_
        rintro e w1 ⟨rfl, hk1⟩
        have hb1 := hk1.blk (fun h => h) hbB
        have hK1 := hkB.trans hk1 (fun _ _ h => h)
        have x0 := hb1.cell 0
        have x1 := hb1.cell 1
        have x2 := hb1.cell 2
        have x3 := hb1.cell 3
        have x4 := hb1.cell 4
        go_wp2_with fail
        refine (HW.out _).mono ?_
        rintro e w2 ⟨rfl, hk2⟩
        have hK2 := hK1.trans hk2 (fun _ _ h => h)
        have hb2 := hk2.blk (fun h => h) hb1
        clear x0 x1 x2 x3 x4
        have x0 := hb2.cell 0
        have x1 := hb2.cell 1
        have x2 := hb2.cell 2
        have x3 := hb2.cell 3
        have x4 := hb2.cell 4
        go_wp2_with fail
        refine (HI.out _).mono ?_
        rintro e w3 ⟨rfl, hk3⟩
        have hK3 := hK2.trans hk3 (fun _ _ h => h)
        go_wp2_with fail
        go_ret2
        exact ⟨rfl, hK3⟩

/-! ### live.next -/
theorem ints_two' (w : World) (y z : Int) {n : Nat} (hn : n = w.heap.size) : Ints (w.alloc (.cells #[.int .i64 y, .int .i64 z] 3)) (.slice (some ⟨n, 0, none⟩) 2 2) [y, z] := by subst hn; exact ints_two w y z
def nextN (i : Nat) (x : In) : List Int := if (x.op == 24) = true then [(i : Int) + 2] else if (x.op == 149) = true then [] else if (x.op == 5) = true then [(i : Int) + 1 + x.off]
  else if ((clsI x == 5 || clsI x == 6) && (x.op != 133)) = true then [(i : Int) + 1, (i : Int) + 1 + x.off] else [(i : Int) + 1]
set_option maxHeartbeats 8000000 in
set_option maxRecDepth 100000 in
theorem lnext_any (l : List In) (a : Option Addr) (c i : Nat) (x : In) (w : World) (h : Ins w (.slice a l.length c) l) (hok : InsOk l) (hx : l[i]? = some x) :
    Calls Try.prog 44 #[.slice a l.length c, .int .i64 i] w fun e w' => ∃ ov, e = .returned ov ∧ Ints w' ov (nextN i x) ∧ Kept (fun _ => False) w w' ∧ ∀ g, ov.ownBlock = some g → w.heap.size ≤ g := by
  have hlen := hok.len
  have hi := (List.getElem?_eq_some_iff.1 hx).1
  have hxo := hok.at_ hx
  have hoff := hxo.off
  have h7 := and7 hxo.op
  obtain ⟨N, hN⟩ : ∃ N, nextN i x = N := ⟨_, rfl⟩
  rw [hN]
  unfold nextN clsI at hN
  obtain ⟨cl, hcl⟩ : ∃ cl, x.op % 8 = cl := ⟨_, rfl⟩
  rw [hcl] at hN h7
  clear hcl
  obtain ⟨g, off, rfl, hg, c0, c1, c2, c3, c4⟩ := h.at_ hx
  have hKn : Kept (fun _ => False) w (w.alloc (.cells (inVals x) 26)) := (Kept.refl _ w).alloc _
  have hsz : (w.alloc (.cells (inVals x) 26)).heap.size = w.heap.size + 1 := by show (Array.push _ _).size = _; rw [Array.size_push]
  clear h hok hx hxo
  have HN := Lib.hid hN
  clear hN
  cases h24 : (x.op == 24)
  case true =>
    have hN := HN.out
    simp only [h24, if_true] at hN
    subst hN
    clear HN
    go_enter Try.func44, Try.ntmps44
    go_wp2_with fail
    go_ret
    exact ⟨_, rfl, ints_one' (n := w.heap.size + 1) _ _ hsz.symm, hKn.alloc _, fun g hg => by simp [Value.ownBlock] at hg; omega⟩
  case false =>
  cases h149 : (x.op == 149)
  case true =>
    have hN := HN.out
    simp only [h24, h149, if_true, if_false, Bool.false_eq_true] at hN
    subst hN
    clear HN
    go_enter Try.func44, Try.ntmps44
    go_wp2_with fail
    go_ret
    exact ⟨_, rfl, Sl.nil _ _ _, hKn, fun g hg => by simp [Value.ownBlock] at hg⟩
  case false =>
  cases h5 : (x.op == 5)
  case true =>
    have hN := HN.out
    simp only [h24, h149, h5, if_true, if_false, Bool.false_eq_true] at hN
    subst hN
    clear HN
    go_enter Try.func44, Try.ntmps44
    go_wp2_with fail
    go_ret
    exact ⟨_, rfl, ints_one' (n := w.heap.size + 1) _ _ hsz.symm, hKn.alloc _, fun g hg => by simp [Value.ownBlock] at hg; omega⟩
  case false =>
  cases h133 : (x.op != 133) <;> cases q5 : (cl == 5) <;> cases q6 : (cl == 6)
  all_goals
    have hN := HN.out
    simp only [h24, h149, h5, h133, q5, q6, Bool.true_or, Bool.or_true, Bool.false_or, Bool.true_and, Bool.false_and, Bool.and_false, Bool.and_self, Bool.or_self, if_true, if_false, Bool.false_eq_true] at hN
    subst hN
    clear HN
    go_enter Try.func44, Try.ntmps44
    go_wp2_with fail
    go_ret
    first
      | exact ⟨_, rfl, ints_one' (n := w.heap.size + 1) _ _ hsz.symm, hKn.alloc _, fun g hg => by simp [Value.ownBlock] at hg; omega⟩
      | exact ⟨_, rfl, ints_two' (n := w.heap.size + 1) _ _ _ hsz.symm, hKn.alloc _, fun g hg => by simp [Value.ownBlock] at hg; omega⟩

end Go.Proofs.Ytopdoanfpjaehaa
set_option linter.unusedSimpArgs false
set_option linter.unusedVariables false
namespace Go.Proofs.Ytopdoanfpjaehaa
open Go.RowKit

/-! ### rows of bits, in plain -/
/-- each bit of a is one of b -/
def Sb (a b : Nat) : Prop := ∀ k, a.testBit k = true → b.testBit k = true
theorem Sb.refl (a : Nat) : Sb a a := fun _ h => h
theorem Sb.trans {a b c : Nat} (h : Sb a b) (g : Sb b c) : Sb a c := fun k hk => g k (h k hk)
theorem Sb.zero (b : Nat) : Sb 0 b := fun k hk => by simp at hk
theorem Sb.antisymm {a b : Nat} (h : Sb a b) (g : Sb b a) : a = b := Nat.eq_of_testBit_eq fun k => by
  cases ha : a.testBit k <;> cases hb : b.testBit k
  · rfl
  · rw [g k hb] at ha; cases ha
  · rw [h k ha] at hb; cases hb
  · rfl
theorem Sb.or_eq {a b : Nat} (h : Sb a b) : a ||| b = b := Nat.eq_of_testBit_eq fun k => by
  rw [Nat.testBit_or]
  cases ha : a.testBit k
  · simp
  · rw [h k ha]; rfl
theorem Sb.le {a b : Nat} (h : Sb a b) : a ≤ b := by
  rw [← h.or_eq]
  exact Nat.left_le_or
theorem Sb.or {a b c d : Nat} (h : Sb a b) (g : Sb c d) : Sb (a ||| c) (b ||| d) := fun k hk => by
  rw [Nat.testBit_or, Bool.or_eq_true] at hk ⊢
  exact hk.imp (h k) (g k)
theorem Sb.and {a b : Nat} (h : Sb a b) (m : Nat) : Sb (a &&& m) (b &&& m) := fun k hk => by
  rw [Nat.testBit_and, Bool.and_eq_true] at hk ⊢
  exact ⟨h k hk.1, hk.2⟩
theorem Sb.less {a b : Nat} (h : Sb a b) (m : Nat) : Sb (lessN a m) (lessN b m) := h.and _

/-- what is live at one of the slots of a list -/
def behN (L : List Nat) : List Int → Nat
  | [] => 0
  | t :: r => L.getD t.toNat 0 ||| behN L r
theorem behN_append (L : List Nat) (A B : List Int) : behN L (A ++ B) = behN L A ||| behN L B := by
  induction A with
  | nil => simp [behN]
  | cons t r ih => simp only [List.cons_append, behN, ih, Nat.or_assoc]
theorem behN_next {L : List Nat} {N : List Int} {j : Nat} {t : Int} (h : N[j]? = some t) : behN L (N.take (j + 1)) = behN L (N.take j) ||| L.getD t.toNat 0 := by
  rw [List.take_add_one, h, behN_append]
  simp [behN]
theorem behN_bit {L : List Nat} {N : List Int} {k : Nat} : (behN L N).testBit k = true ↔ ∃ t ∈ N, (L.getD t.toNat 0).testBit k = true := by
  induction N with
  | nil => simp [behN]
  | cons t r ih => simp only [behN, Nat.testBit_or, Bool.or_eq_true, ih, List.mem_cons, exists_eq_or_imp]
theorem behN_same {L : List Nat} {A B : List Int} (h : ∀ t, t ∈ A ↔ t ∈ B) : behN L A = behN L B := Nat.eq_of_testBit_eq fun k => by
  rw [Bool.eq_iff_iff, behN_bit, behN_bit]
  simp only [h]
theorem behN_lt {L : List Nat} (h : ∀ v ∈ L, v < 65536) (N : List Int) : behN L N < 65536 := by
  induction N with
  | nil => simp [behN]
  | cons t r ih =>
    refine or_lt ?_ ih
    rw [List.getD_eq_getElem?_getD]
    cases e : L[t.toNat]? with
    | none => simp
    | some v => exact h v (List.mem_of_getElem? e)
theorem behN_mono {L M : List Nat} (h : ∀ (i v u : Nat), L[i]? = some v → M[i]? = some u → Sb v u) (hl : L.length = M.length) (N : List Int) : Sb (behN L N) (behN M N) := fun k hk => by
  rw [behN_bit] at hk ⊢
  obtain ⟨t, ht, hb⟩ := hk
  refine ⟨t, ht, ?_⟩
  rw [List.getD_eq_getElem?_getD] at hb ⊢
  cases e : L[t.toNat]? with
  | none => rw [e] at hb; simp at hb
  | some v =>
    have hlt := (List.getElem?_eq_some_iff.1 e).1
    have e2 : M[t.toNat]? = some M[t.toNat] := List.getElem?_eq_getElem (by omega)
    rw [e] at hb
    rw [e2]
    exact h _ _ _ e e2 k hb
theorem nextN_same {i : Nat} {x : In} (h : InOk x) (hk : knownB x = true) (t : Int) : t ∈ nextN i x ↔ t ∈ nextC i x := by
  have hj := jump_eq h hk
  have h8 := isR8 h hk
  have h9 := isR9 h hk
  have hf := fj_eq h hk
  unfold nextN nextC
  by_cases e24 : x.op = 24
  · have hnj := wide_nojump e24
    rw [hnj]
    simp [e24]
  have b24 : (x.op == 24) = false := by simpa using e24
  by_cases e149 : x.op = 149
  · simp [e149]
  have b149 : (x.op == 149) = false := by simpa using e149
  by_cases e5 : x.op = 5
  · have := ja_jump e5
    simp [e5, this]
  have b5 : (x.op == 5) = false := by simpa using e5
  have e : ((clsI x == 5 || clsI x == 6) && (x.op != 133)) = isJumpB x := by
    rw [← hf]
    unfold fjB
    simp [bne, b149]
  rw [e, b24, b149, b5]
  cases isJumpB x
  · simp
  · cases eo : (x.off == 0)
    · simp
    · have eo : x.off = 0 := by simpa using eo
      simp [eo]

/-- what is live at a slot, told by what is live at the next ones -/
def newN (L : List Nat) (i : Nat) (x : In) : Nat := readsN x ||| lessN (behN L (nextC i x)) (writesN x)
theorem newN_mono {L M : List Nat} (h : ∀ (i v u : Nat), L[i]? = some v → M[i]? = some u → Sb v u) (hl : L.length = M.length) (i : Nat) (x : In) : Sb (newN L i x) (newN M i x) := (Sb.refl _).or ((behN_mono h hl _).less _)
theorem right_of {l : List In} (h : checkI l = 0) {i : Nat} {x : In} (hx : l[i]? = some x) (hs : (secL l)[i]? = some false) : rightB x = true := by
  obtain ⟨h1, _⟩ := check_parts h
  obtain ⟨_, _, h3⟩ := slots_zero h1
  have := h3 i (List.getElem?_eq_some_iff.1 hx).1
  rw [slot_wrong hx hs] at this
  obtain ⟨hk, hr, _⟩ := wrong_rest this
  unfold rightB
  rw [hk]
  simp at hr ⊢
  omega
theorem right_known {x : In} (h : rightB x = true) : knownB x = true := by
  unfold rightB at h
  simp at h
  exact h.1
theorem newN_lt {L : List Nat} (h : ∀ v ∈ L, v < 65536) {x : In} (hr : rightB x = true) (i : Nat) : newN L i x < 65536 := by
  obtain ⟨h1, h2⟩ := rightB_regs hr
  exact or_lt (readsN_lt x h1 h2) (less_lt (behN_lt h _))

/-! ### the least rows -/
def PostF (l : List In) (R : List Nat) : Prop := R.length = l.length ∧ ∀ (i : Nat) (x : In) (u : Nat), l[i]? = some x → (secL l)[i]? = some false → R[i]? = some u → Sb (newN R i x) u
structure LInv (l : List In) (L : List Nat) : Prop where
  len : L.length = l.length
  lt : ∀ v ∈ L, v < 65536
  sec : ∀ i : Nat, (secL l)[i]? = some true → L[i]? = some 0
  inc : ∀ (i : Nat) (x : In) (v : Nat), l[i]? = some x → (secL l)[i]? = some false → L[i]? = some v → Sb v (newN L i x)
  least : ∀ R, PostF l R → ∀ (i v u : Nat), L[i]? = some v → R[i]? = some u → Sb v u
structure LiveIs (l : List In) (L : List Nat) : Prop where
  len : L.length = l.length
  lt : ∀ v ∈ L, v < 65536
  sec : ∀ i : Nat, (secL l)[i]? = some true → L[i]? = some 0
  fix : ∀ (i : Nat) (x : In), l[i]? = some x → (secL l)[i]? = some false → L[i]? = some (newN L i x)
  least : ∀ R, PostF l R → ∀ (i v u : Nat), L[i]? = some v → R[i]? = some u → Sb v u
theorem LInv.start (l : List In) : LInv l (List.replicate l.length 0) where
  len := by simp
  lt := fun v hv => by rw [(List.mem_replicate.1 hv).2]; omega
  sec := fun i hi => by
    have := (List.getElem?_eq_some_iff.1 hi).1
    rw [sec_len] at this
    rw [List.getElem?_replicate, if_pos this]
  inc := fun i x v _ _ hv => by
    rw [(List.mem_replicate.1 (List.mem_of_getElem? hv)).2]
    exact Sb.zero _
  least := fun R _ i v u hv _ => by
    rw [(List.mem_replicate.1 (List.mem_of_getElem? hv)).2]
    exact Sb.zero _
theorem set_up {L : List Nat} {i v0 v : Nat} (h0 : L[i]? = some v0) (h : Sb v0 v) : ∀ (j a b : Nat), L[j]? = some a → (L.set i v)[j]? = some b → Sb a b := fun j a b ha hb => by
  rw [List.getElem?_set] at hb
  split at hb
  · rename_i e
    subst e
    split at hb
    · rw [h0] at ha
      cases ha
      cases hb
      exact h
    · cases hb
  · rw [ha] at hb
    cases hb
    exact Sb.refl _
theorem LInv.step {l : List In} {L : List Nat} (h : LInv l L) {i : Nat} {x : In} (hx : l[i]? = some x) (hs : (secL l)[i]? = some false) (hr : rightB x = true) : LInv l (L.set i (newN L i x)) := by
  have hi := (List.getElem?_eq_some_iff.1 hx).1
  obtain ⟨v0, hg⟩ : ∃ v0, L[i]? = some v0 := ⟨_, List.getElem?_eq_getElem (by rw [h.len]; exact hi)⟩
  have hup := set_up hg (h.inc i x _ hx hs hg)
  refine ⟨by rw [List.length_set, h.len], fun v hv => ?_, fun j hj => ?_, fun j y v hy hsj hv => ?_, fun R hR j v u hv hu => ?_⟩
  · rcases List.mem_or_eq_of_mem_set hv with hv | rfl
    · exact h.lt v hv
    · exact newN_lt h.lt hr i
  · have hne : i ≠ j := fun e => by subst e; rw [hs] at hj; cases hj
    rw [List.getElem?_set_ne hne]
    exact h.sec j hj
  · have hm : Sb (newN L j y) (newN (L.set i (newN L i x)) j y) := newN_mono hup (by simp) j y
    by_cases e : i = j
    · subst e
      rw [List.getElem?_set_self (by rw [h.len]; exact hi)] at hv
      rw [hx] at hy
      cases hy
      cases hv
      exact hm
    · rw [List.getElem?_set_ne e] at hv
      exact (h.inc j y v hy hsj hv).trans hm
  · by_cases e : i = j
    · subst e
      rw [List.getElem?_set_self (by rw [h.len]; exact hi)] at hv
      cases hv
      exact (newN_mono (h.least R hR) (by rw [h.len, hR.1]) i x).trans (hR.2 i x u hx hs hu)
    · rw [List.getElem?_set_ne e] at hv
      exact h.least R hR j v u hv hu
theorem LInv.up {l : List In} {L : List Nat} (h : LInv l L) {i : Nat} {x : In} {v : Nat} (hx : l[i]? = some x) (hs : (secL l)[i]? = some false) (hv : L[i]? = some v) : v ||| newN L i x = newN L i x ∧ v ≤ newN L i x :=
  ⟨(h.inc i x v hx hs hv).or_eq, (h.inc i x v hx hs hv).le⟩
theorem sum_set {L : List Nat} {i v0 v : Nat} (h : L[i]? = some v0) : (L.set i v).sum + v0 = L.sum + v := by
  induction L generalizing i with
  | nil => simp at h
  | cons a r ih =>
    cases i with
    | zero => simp at h; subst h; simp; omega
    | succ i =>
      simp at h
      have := ih h
      simp
      omega
theorem sum_most {L : List Nat} (h : ∀ v ∈ L, v < 65536) : L.sum ≤ 65536 * L.length := by
  induction L with
  | nil => simp
  | cons a r ih =>
    have h1 := h a (by simp)
    have h2 := ih fun v hv => h v (by simp [hv])
    simp
    omega
theorem LiveIs.of {l : List In} {L : List Nat} (h : LInv l L) (hf : ∀ (i : Nat) (x : In), l[i]? = some x → (secL l)[i]? = some false → L[i]? = some (newN L i x)) : LiveIs l L := ⟨h.len, h.lt, h.sec, hf, h.least⟩
theorem LiveIs.post {l : List In} {L : List Nat} (h : LiveIs l L) : PostF l L := ⟨h.len, fun i x u hx hs hu => by
  rw [h.fix i x hx hs] at hu
  cases hu
  exact Sb.refl _⟩
theorem LiveIs.unique {l : List In} {L M : List Nat} (h : LiveIs l L) (k : LiveIs l M) : L = M := by
  refine List.ext_getElem (by rw [h.len, k.len]) fun i h1 h2 => ?_
  exact (h.least M k.post i _ _ (List.getElem?_eq_getElem h1) (List.getElem?_eq_getElem h2)).antisymm (k.least L h.post i _ _ (List.getElem?_eq_getElem h2) (List.getElem?_eq_getElem h1))

end Go.Proofs.Ytopdoanfpjaehaa
