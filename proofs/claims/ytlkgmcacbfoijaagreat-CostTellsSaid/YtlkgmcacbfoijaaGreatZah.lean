import Derived.Test.YtlkgmcacbfoijaaGreatZag
import Derived.Outline
import Derived.Deep.DeepCutAuto
import Derived.Deep.CutBlock
set_option linter.unusedSimpArgs false
set_option linter.unusedVariables false
namespace Go.Proofs.YtlkgmcacbfoijaaGreat
open Go.RowKit

/-! ### lists of slots, in memory -/
def Ins (w : World) (v : Value) (l : List In) : Prop := ∃ a c, v = .slice a l.length c ∧ l.length ≤ c ∧ ∀ (i : Nat) (x : In), l[i]? = some x → ∃ g off, a = some ⟨g, off, none⟩ ∧ g < w.heap.size ∧ ∀ k u, (inVals x)[k]? = some u → w.cell? ⟨g, off + i * 5 + k, none⟩ = some u
section
variable {w w' : World} {v : Value} {l : List In}
theorem Ins.kept (h : Ins w v l) (hk : Kept (fun _ => False) w w') : Ins w' v l := by
  obtain ⟨a, c, hv, hl, h⟩ := h
  refine ⟨a, c, hv, hl, fun i x hx => ?_⟩
  obtain ⟨g, off, ha, hg, hc⟩ := h i x hx
  exact ⟨g, off, ha, Nat.lt_of_lt_of_le hg hk.size, fun k u hu => (hk.cell (p := ⟨g, off + i * 5 + k, none⟩) hg (fun h => h)).trans (hc k u hu)⟩
theorem Ins.any (h : Ins w v l) : ∃ a c, v = .slice a l.length c := by
  obtain ⟨a, c, hv, _⟩ := h
  exact ⟨a, c, hv⟩
theorem Ins.at_ {a : Option Addr} {n c : Nat} (h : Ins w (.slice a n c) l) {i : Nat} {x : In} (hx : l[i]? = some x) : ∃ g off, a = some ⟨g, off, none⟩ ∧ g < w.heap.size ∧
    w.cell? ⟨g, off + i * 5, none⟩ = some (.int .u8 x.op) ∧ w.cell? ⟨g, off + i * 5 + 1, none⟩ = some (.int .u8 x.dst) ∧ w.cell? ⟨g, off + i * 5 + 2, none⟩ = some (.int .u8 x.src) ∧
    w.cell? ⟨g, off + i * 5 + 3, none⟩ = some (.int .i16 x.off) ∧ w.cell? ⟨g, off + i * 5 + 4, none⟩ = some (.int .i32 x.imm) := by
  obtain ⟨a', c', hv, _, hc⟩ := h
  obtain ⟨g, off, ha, hg, hcell⟩ := hc i x hx
  cases hv
  exact ⟨g, off, ha, hg, hcell 0 _ rfl, hcell 1 _ rfl, hcell 2 _ rfl, hcell 3 _ rfl, hcell 4 _ rfl⟩
end
structure InsOk (l : List In) : Prop where
  len : l.length ≤ 1000000
  ok : ∀ x ∈ l, InOk x
theorem InsOk.at_ {l : List In} (h : InsOk l) {i : Nat} {x : In} (hx : l[i]? = some x) : InOk x := h.ok x (List.mem_of_getElem? hx)

/-! ### calls -/
def isCallB (x : In) : Bool := ((x.op == 133) && (x.src == 1)) || ((x.op == 24) && (x.src == 4))
set_option maxHeartbeats 4000000 in
theorem calls_any (l : List In) (a : Option Addr) (c i : Nat) (x : In) (w : World) (h : Ins w (.slice a l.length c) l) (hok : InsOk l) (hx : l[i]? = some x) :
    Calls Tryz.prog 73 #[.slice a l.length c, .int .i64 i] w fun e w' => e = .returned (.tuple #[.int .i64 ((i : Int) + 1 + x.imm), .bool (isCallB x)]) ∧ Kept (fun _ => False) w w' := by
  have hi := (List.getElem?_eq_some_iff.1 hx).1
  have hlen := hok.len
  have him := (hok.at_ hx).imm
  obtain ⟨g, off, rfl, hg, c0, c1, c2, c3, c4⟩ := h.at_ hx
  obtain ⟨r, hr⟩ : ∃ r, isCallB x = r := ⟨_, rfl⟩
  rw [hr]
  unfold isCallB at hr
  cases h1 : (x.op == 133) <;> cases h2 : (x.src == 1) <;> cases h3 : (x.op == 24)
  all_goals
    simp only [h1, h2, h3, Bool.not_false, Bool.not_true, Bool.true_and, Bool.false_and, Bool.and_true, Bool.and_false, Bool.true_or, Bool.false_or, Bool.or_true, Bool.or_false] at hr
    subst hr
    clear hx h hok
    go_enter Tryz.func73, Tryz.ntmps73
    go_wp2_with fail
    refine wp_region_mix0 [.w, .w, .w, .l, .w, .w, .w, .w, .w, .l, .w, .w, .w, .l, .w, .w, .w, .w, .w] (by kernel_rfl) (by kernel_rfl) ?_
    repeat (first
      | (refine mix_w1 ?_; go_big_quiet_step (fail); refine wpQuiet_nil ?_)
      | (refine mix_l1 rfl ?_; go_big_quiet_step (fail); refine wpQuiet_nil ?_))
    refine mix_done ?_
    go_wp2_with fail
    go_ret2
    exact ⟨rfl, ((Kept.refl _ w).alloc _).drew⟩

/-! ### jumps -/
def isJumpB (x : In) : Bool := (((clsI x == 5) || (clsI x == 6)) && (codeI x != 8)) && (codeI x != 9)
set_option maxHeartbeats 4000000 in
theorem jumps_any (l : List In) (a : Option Addr) (c i : Nat) (x : In) (w : World) (h : Ins w (.slice a l.length c) l) (hok : InsOk l) (hx : l[i]? = some x) :
    Calls Tryz.prog 74 #[.slice a l.length c, .int .i64 i] w fun e w' => e = .returned (.tuple #[.int .i64 ((i : Int) + 1 + x.off), .bool (isJumpB x)]) ∧ Kept (fun _ => False) w w' := by
  have hi := (List.getElem?_eq_some_iff.1 hx).1
  have hlen := hok.len
  have him := (hok.at_ hx).off
  have HC := Lib.hid (fun W => class_any x.op W (hok.at_ hx).op)
  have HK := Lib.hid (fun W => code_any x.op W (hok.at_ hx).op)
  have hc0 : clsI x = x.op % 8 := rfl
  have hk0 : codeI x = x.op / 16 := rfl
  rw [← hc0] at HC
  rw [← hk0] at HK
  obtain ⟨g, off, rfl, hg, c0, c1, c2, c3, c4⟩ := h.at_ hx
  obtain ⟨r, hr⟩ : ∃ r, isJumpB x = r := ⟨_, rfl⟩
  rw [hr]
  unfold isJumpB at hr
  generalize clsI x = cl at *
  generalize codeI x = k at *
  clear hc0 hk0
  cases h1 : (cl == 5) <;> cases h2 : (cl == 6) <;> cases h3 : (k != 8)
  all_goals
    simp only [h1, h2, h3, Bool.not_false, Bool.not_true, Bool.true_and, Bool.false_and, Bool.and_true, Bool.and_false, Bool.true_or, Bool.false_or, Bool.or_true, Bool.or_false] at hr
    subst hr
    clear hx h hok
    go_enter Tryz.func74, Tryz.ntmps74
    go_wp2_with (first
      | (go_at_call 103; refine (HC.out _).mono ?_; rintro e w1 ⟨rfl, rfl⟩)
      | (go_at_call 104; refine (HK.out _).mono ?_; rintro e w1 ⟨rfl, rfl⟩))
    go_ret2
    exact ⟨rfl, (Kept.refl _ w).alloc _⟩

/-! ### Second -/
def secG : Bool → List In → List Bool
  | _, [] => []
  | p, x :: r => p :: secG (x.op == 24 && !p) r
/-- which slots are second ones -/
def secL (l : List In) : List Bool := secG false l
theorem secG_len : ∀ (p : Bool) (l : List In), (secG p l).length = l.length
  | _, [] => rfl
  | p, x :: r => by simp [secG, secG_len]
theorem secG_succ : ∀ (p : Bool) (l : List In) (i : Nat) (x : In) (b : Bool), l[i]? = some x → (secG p l)[i]? = some b → i + 1 < l.length → (secG p l)[i + 1]? = some (x.op == 24 && !b)
  | p, [], i, x, b, h, _, _ => by simp at h
  | p, y :: r, 0, x, b, h, h2, h3 => by
    simp at h
    subst h
    simp [secG] at h2
    subst h2
    cases r with
    | nil => simp at h3
    | cons z r => simp [secG]
  | p, y :: r, i + 1, x, b, h, h2, h3 => by
    simp only [List.getElem?_cons_succ] at h
    simp only [secG, List.getElem?_cons_succ] at h2 ⊢
    exact secG_succ _ r i x b h h2 (by simpa using h3)
theorem sec_succ {l : List In} {i : Nat} {x : In} {b : Bool} (h : l[i]? = some x) (h2 : (secL l)[i]? = some b) (h3 : i + 1 < l.length) : (secL l)[i + 1]? = some (x.op == 24 && !b) := secG_succ false l i x b h h2 h3
theorem sec_len (l : List In) : (secL l).length = l.length := secG_len false l
theorem sec_zero {l : List In} (h : 0 < l.length) : (secL l)[0]? = some false := by
  cases l with
  | nil => simp at h
  | cons x r => rfl
/-- the list as far as it is known, and what was there ahead of it -/
def mixL (B : List Bool) (n i : Nat) : List Bool := B.take i ++ List.replicate (n - i) false
theorem mixL_set {B : List Bool} {n i : Nat} {b : Bool} (hn : B.length = n) (hi : i < n) (hb : B[i]? = some b) : (mixL B n i).set i b = mixL B n (i + 1) := by
  unfold mixL
  have hl : (B.take i).length = i := by simp; omega
  rw [List.set_append, if_neg (by omega), hl, Nat.sub_self, List.take_add_one, hb]
  obtain ⟨m, hm⟩ : ∃ m, n - i = m + 1 := ⟨n - i - 1, by omega⟩
  rw [hm, List.replicate_succ, List.set_cons_zero, show n - (i + 1) = m by omega]
  simp

theorem mixL_lt {B : List Bool} {n i j : Nat} (hn : B.length = n) (h : j < i) (hi : i ≤ n) : (mixL B n i)[j]? = B[j]? := by
  unfold mixL
  rw [List.getElem?_append_left (by simp; omega), List.getElem?_take_of_lt h]
theorem mixL_at {B : List Bool} {n i : Nat} (hn : B.length = n) (h : i < n) : (mixL B n i)[i]? = some false := by
  unfold mixL
  have hl : (B.take i).length = i := by simp; omega
  rw [List.getElem?_append_right (by omega), hl, Nat.sub_self, List.getElem?_replicate, if_pos (by omega)]
theorem mixL_len {B : List Bool} {n i : Nat} (hn : B.length = n) (h : i ≤ n) : (mixL B n i).length = n := by
  unfold mixL
  simp
  omega
theorem mixL_one {l : List In} : mixL (secL l) l.length 1 = List.replicate l.length false := by
  cases l with
  | nil => rfl
  | cons x r => simp [mixL, secL, secG, List.replicate_succ]
theorem mixL_end {B : List Bool} {n i : Nat} (hn : B.length = n) (h : n ≤ i) : mixL B n i = B := by
  unfold mixL
  rw [List.take_of_length_le (by omega), show n - i = 0 by omega]
  simp
set_option maxHeartbeats 4000000 in
set_option maxRecDepth 100000 in
theorem second_any (l : List In) (a : Option Addr) (c : Nat) (w : World) (h : Ins w (.slice a l.length c) l) (hok : InsOk l) :
    Calls Tryz.prog 28 #[.slice a l.length c] w fun e w' => ∃ ov, e = .returned ov ∧ Bls w' ov (secL l) ∧ Kept (fun _ => False) w w' ∧ ∀ g, ov.ownBlock = some g → w.heap.size ≤ g := by
  have hlen := hok.len
  obtain ⟨i0, hI0, hI1, hI2, hI3⟩ := info_parts infoB
  go_enter Tryz.func28, Tryz.ntmps28
  go_wp2_with (refine wpList_makeSl (w := w) rfl (.tmp 6) (.tmp 6) 72 rfl (.bool false) rfl Tryz.underlying72 hI0 hI1 hI2 hI3 (by omega) l.length rfl rfl (by omega) ?_; intro w1 hB1 hk1)
  have hB1' : Bls w1 (.slice (some ⟨w.heap.size, 0, none⟩) l.length l.length) (mixL (secL l) l.length 1) := by
    rw [mixL_one]
    unfold Bls
    rw [List.map_replicate]
    exact hB1
  clear hB1
  go_loopw [4] (fun iv wr => ∃ j : Nat, iv = .int .i64 ((j : Int) + 1) ∧ (j + 1 ≤ l.length ∨ j = 0) ∧ Bls wr (.slice (some ⟨w.heap.size, 0, none⟩) l.length l.length) (mixL (secL l) l.length (j + 1)) ∧ Kept (fun _ => False) w wr) (fun iv _ => l.length - (intOf iv).toNat)
  case atStart => exact ⟨0, rfl, .inr rfl, hB1', hk1⟩
  case round =>
    clear hB1' hk1
    obtain ⟨j, rfl, hj, hB, hK⟩ := hrel
    by_cases hlt : j + 1 < l.length
    case neg =>
      rw [mixL_end (sec_len l) (by omega)] at hB
      have hnd : decide ((j : Int) + 1 < l.length) = false := decide_eq_false (by omega)
      clear hj hlt
      go_wp2_with fail
      go_ret
      exact ⟨_, rfl, hB, hK, fun g hg => Nat.le_of_eq (Option.some.inj (show some w.heap.size = some g from hg))⟩
    case pos =>
      obtain ⟨x, hx⟩ : ∃ x, l[j]? = some x := ⟨_, List.getElem?_eq_getElem (by omega)⟩
      obtain ⟨b, hb⟩ : ∃ b, (secL l)[j]? = some b := ⟨_, List.getElem?_eq_getElem (by rw [sec_len]; omega)⟩
      have hs := sec_succ hx hb hlt
      obtain ⟨g, off, rfl, hg, c0, c1, c2, c3, c4⟩ := (h.kept hK).at_ hx
      have hml := mixL_len (i := j + 1) (sec_len l) (by omega)
      have d0 := Bls.cell hB (i := j) (x := b) (by rw [mixL_lt (sec_len l) (by omega) (by omega)]; exact hb)
      have d1 := Bls.cell hB (i := j + 1) (x := false) (mixL_at (sec_len l) hlt)
      have f1 := Sl.frozen hB (j + 1)
      obtain ⟨v, hv⟩ : ∃ v, (x.op == 24 && !b) = v := ⟨_, rfl⟩
      rw [hv] at hs
      have hB2 := Bls.set hB (i := j + 1) (by rw [hml]; omega) v
      rw [mixL_set (sec_len l) hlt hs] at hB2
      have hK2 : Kept (fun _ => False) w (wr.setCell ⟨w.heap.size, j + 1, none⟩ (.bool v)) := hK.setCell (fun h => by simp at h) _
      clear hs hx hb hml hB
      cases h24 : (x.op == 24) <;> cases b
      all_goals
        simp only [h24, Bool.not_false, Bool.not_true, Bool.true_and, Bool.false_and] at hv
        subst hv
        go_wp2_with fail
        exact ⟨⟨j + 1, by go_num, .inl (by omega), hB2, hK2⟩, by simp [intOf]; omega⟩

end Go.Proofs.YtlkgmcacbfoijaaGreat

set_option linter.unusedSimpArgs false
set_option linter.unusedVariables false
namespace Go.Proofs.YtlkgmcacbfoijaaGreat
open Go.RowKit

/-! ### whole -/
def zeroB (y : In) (z : Int) : Bool := (((((y.op == 0) && (y.dst == 0)) && (y.src == 0)) && (y.off == 0)) && (z == 0))
def wholeB (l : List In) (i : Nat) : Bool := match l[i]?, l[i + 1]? with
  | some x, some y => zeroB y (if x.src = 0 then 0 else y.imm)
  | _, _ => false
set_option maxHeartbeats 4000000 in
set_option maxRecDepth 100000 in
theorem whole_any (l : List In) (a : Option Addr) (c i : Nat) (x : In) (w : World) (h : Ins w (.slice a l.length c) l) (hok : InsOk l) (hx : l[i]? = some x) :
    Calls Tryz.prog 102 #[.slice a l.length c, .int .i64 i] w fun e w' => e = .returned (.bool (wholeB l i)) ∧ Kept (fun _ => False) w w' := by
  have hlen := hok.len
  have hi := (List.getElem?_eq_some_iff.1 hx).1
  obtain ⟨r, hr⟩ : ∃ r, wholeB l i = r := ⟨_, rfl⟩
  rw [hr]
  unfold wholeB at hr
  rw [hx] at hr
  by_cases hlt : i + 1 < l.length
  case neg =>
    rw [List.getElem?_eq_none (by omega)] at hr
    simp only at hr
    subst hr
    clear hx
    go_enter Tryz.func102, Tryz.ntmps102
    go_wp2_with fail
    go_ret
    exact ⟨rfl, Kept.refl _ w⟩
  case pos =>
    obtain ⟨y, hy⟩ : ∃ y, l[i + 1]? = some y := ⟨_, List.getElem?_eq_getElem hlt⟩
    rw [hy] at hr
    simp only at hr
    obtain ⟨g, off, rfl, hg, c0, c1, c2, c3, c4⟩ := h.at_ hx
    obtain ⟨g', off', hgg, hg', d0, d1, d2, d3, d4⟩ := h.at_ hy
    cases hgg
    clear hx hy h hok
    by_cases hs : x.src = 0
    · rw [if_pos hs] at hr
      have hs2 : (x.src == 0) = true := by simpa using hs
      clear hs
      unfold zeroB at hr
      have hch : (y.op == 0) = false ∨ (y.op == 0) = true ∧ (y.dst == 0) = false ∨ (y.op == 0) = true ∧ (y.dst == 0) = true ∧ (y.src == 0) = false ∨ (y.op == 0) = true ∧ (y.dst == 0) = true ∧ (y.src == 0) = true ∧ (y.off == 0) = false ∨
          (y.op == 0) = true ∧ (y.dst == 0) = true ∧ (y.src == 0) = true ∧ (y.off == 0) = true := by
        cases (y.op == 0) <;> cases (y.dst == 0) <;> cases (y.src == 0) <;> cases (y.off == 0) <;> simp
      rcases hch with z1 | ⟨z1, z2⟩ | ⟨z1, z2, z3⟩ | ⟨z1, z2, z3, z4⟩ | ⟨z1, z2, z3, z4⟩
      all_goals
        try simp only [z1] at hr
        try simp only [z2] at hr
        try simp only [z3] at hr
        try simp only [z4] at hr
        simp only [BEq.rfl, Bool.true_and, Bool.false_and, Bool.and_true] at hr
        subst hr
        go_enter Tryz.func102, Tryz.ntmps102
        go_wp2_with fail
        go_ret
        exact ⟨rfl, (Kept.refl _ w).alloc _⟩
    · rw [if_neg hs] at hr
      have hs2 : (x.src == 0) = false := by simpa using hs
      clear hs
      unfold zeroB at hr
      have hch : (y.op == 0) = false ∨ (y.op == 0) = true ∧ (y.dst == 0) = false ∨ (y.op == 0) = true ∧ (y.dst == 0) = true ∧ (y.src == 0) = false ∨ (y.op == 0) = true ∧ (y.dst == 0) = true ∧ (y.src == 0) = true ∧ (y.off == 0) = false ∨
          (y.op == 0) = true ∧ (y.dst == 0) = true ∧ (y.src == 0) = true ∧ (y.off == 0) = true ∧ (y.imm == 0) = false ∨ (y.op == 0) = true ∧ (y.dst == 0) = true ∧ (y.src == 0) = true ∧ (y.off == 0) = true ∧ (y.imm == 0) = true := by
        cases (y.op == 0) <;> cases (y.dst == 0) <;> cases (y.src == 0) <;> cases (y.off == 0) <;> cases (y.imm == 0) <;> simp
      rcases hch with z1 | ⟨z1, z2⟩ | ⟨z1, z2, z3⟩ | ⟨z1, z2, z3, z4⟩ | ⟨z1, z2, z3, z4, z5⟩ | ⟨z1, z2, z3, z4, z5⟩
      all_goals
        try simp only [z1] at hr
        try simp only [z2] at hr
        try simp only [z3] at hr
        try simp only [z4] at hr
        try simp only [z5] at hr
        simp only [Bool.true_and, Bool.false_and, Bool.and_true, Bool.and_false] at hr
        subst hr
        go_enter Tryz.func102, Tryz.ntmps102
        go_wp2_with fail
        go_ret
        exact ⟨rfl, (Kept.refl _ w).alloc _⟩

end Go.Proofs.YtlkgmcacbfoijaaGreat

set_option linter.unusedSimpArgs false
set_option linter.unusedVariables false
namespace Go.Proofs.YtlkgmcacbfoijaaGreat
open Go.RowKit

/-! ### wrong -/
def callC (l : List In) (t : Int) : Int := if t < 1 then 14 else if (l.length : Int) ≤ t then 14 else if (secL l)[t.toNat]? = some true then 14 else 0
def restC (l : List In) (i : Nat) (x : In) : Int := if isCallB x = true then callC l ((i : Int) + 1 + x.imm) else if (x.op == 133 && (decide (x.imm < 1) || decide (28 < x.imm))) = true then 14 else 0
def wrongC (l : List In) (i : Nat) (x : In) : Int := if knownB x = false then 11 else if ((decide (10 < x.dst) || decide (10 < x.src)) || (x.dst == 10 && writesB x)) = true then 12
  else if (x.op == 24 && !wholeB l i) = true then 13 else restC l i x
set_option maxHeartbeats 8000000 in
set_option maxRecDepth 100000 in
theorem wrong_any (l : List In) (a : Option Addr) (c i : Nat) (x : In) (sv : Value) (w : World) (h : Ins w (.slice a l.length c) l) (hok : InsOk l) (hx : l[i]? = some x) (hS : Bls w sv (secL l)) :
    Calls Tryz.prog 72 #[.slice a l.length c, .int .i64 i, sv] w fun e w' => e = .returned (.int .i64 (wrongC l i x)) ∧ Kept (fun _ => False) w w' := by
  have hlen := hok.len
  have hi := (List.getElem?_eq_some_iff.1 hx).1
  have hxo := hok.at_ hx
  have him := hxo.imm
  have HKN := Lib.hid (fun W => known1_any x W hxo)
  have HWR := Lib.hid (fun W => writes_any x W hxo)
  have HWH := Lib.hid (fun W hW => whole_any l a c i x W hW hok hx)
  have HCA := Lib.hid (fun W hW => calls_any l a c i x W hW hok hx)
  have HINS := Lib.hid (fun (W : World) (hk : Kept (fun _ => False) w W) => h.kept hk)
  obtain ⟨r, hr⟩ : ∃ r, wrongC l i x = r := ⟨_, rfl⟩
  rw [hr]
  unfold wrongC at hr
  generalize hrc : restC l i x = rc at hr
  generalize knownB x = kn at *
  generalize writesB x = wr at *
  generalize wholeB l i = wh at *
  obtain ⟨g, off, rfl, hg, c0, c1, c2, c3, c4⟩ := h.at_ hx
  have HRC := Lib.hid hrc
  clear hrc h hok hx hxo
  have hBn := Blk.new w 47 (inVals x)
  have hKn : Kept (fun _ => False) w (w.alloc (.cells (inVals x) 47)) := (Kept.refl _ w).alloc _
  go_enter Tryz.func72, Tryz.ntmps72
  go_upto_block 0 with fail
  go_cut [14] (fun _ wx => Blk wx w.heap.size 47 (inVals x) ∧ Kept (fun _ => False) w wx ∧ r = rc)
  case first =>
    as_aux_lemma =>
    go_wp2_with fail
    refine (HKN.out _).mono ?_
    rintro e w1 ⟨rfl, hk1⟩
    have hb1 := hk1.blk (fun h => h) hBn
    have hK1 := hKn.trans hk1 (fun _ _ h => h)
    clear hBn hKn hk1 HKN
    cases kn
    case false =>
      simp only [reduceIte] at hr
      subst hr
      go_wp2_with fail
      go_ret
      exact ⟨rfl, hK1⟩
    case true =>
    simp only [Bool.true_eq_false, if_false] at hr
    have x0 := hb1.cell 0
    have x1 := hb1.cell 1
    have x2 := hb1.cell 2
    have x3 := hb1.cell 3
    have x4 := hb1.cell 4
    have hRG : (decide (10 < x.dst) = true ∨ decide (10 < x.dst) = false ∧ decide (10 < x.src) = true) ∨ decide (10 < x.dst) = false ∧ decide (10 < x.src) = false := by
      cases decide (10 < x.dst) <;> cases decide (10 < x.src) <;> simp
    rcases hRG with (r1 | ⟨r1, r2⟩) | ⟨r1, r2⟩
    case inl.inl =>
      simp only [r1, Bool.not_false, Bool.not_true, Bool.true_and, Bool.false_and, Bool.and_true, Bool.and_false, Bool.true_or, Bool.false_or, Bool.or_true, Bool.or_false, if_true, if_false, Bool.false_eq_true, reduceIte] at hr
      subst hr
      go_wp2_with fail
      go_ret
      exact ⟨rfl, hK1⟩
    case inl.inr =>
      simp only [r1, r2, Bool.not_false, Bool.not_true, Bool.true_and, Bool.false_and, Bool.and_true, Bool.and_false, Bool.true_or, Bool.false_or, Bool.or_true, Bool.or_false, if_true, if_false, Bool.false_eq_true, reduceIte] at hr
      subst hr
      go_wp2_with fail
      go_ret
      exact ⟨rfl, hK1⟩
    case inr =>
    simp only [r1, r2, Bool.not_false, Bool.not_true, Bool.true_and, Bool.false_and, Bool.and_true, Bool.and_false, Bool.true_or, Bool.false_or, Bool.or_true, Bool.or_false, if_true, if_false, Bool.false_eq_true, reduceIte] at hr
    cases r3 : (x.dst == 10)
    case false =>
      simp only [r3, Bool.not_false, Bool.not_true, Bool.true_and, Bool.false_and, Bool.and_true, Bool.and_false, Bool.true_or, Bool.false_or, Bool.or_true, Bool.or_false, if_true, if_false, Bool.false_eq_true, reduceIte] at hr
      cases r4 : (x.op == 24)
      case false =>
        simp only [r4, Bool.not_false, Bool.not_true, Bool.true_and, Bool.false_and, Bool.and_true, Bool.and_false, Bool.true_or, Bool.false_or, Bool.or_true, Bool.or_false, if_true, if_false, Bool.false_eq_true, reduceIte] at hr
        subst hr
        go_wp2_with fail
        go_meet
        exact ⟨hb1, hK1, trivial⟩
      case true =>
        simp only [r4, Bool.not_false, Bool.not_true, Bool.true_and, Bool.false_and, Bool.and_true, Bool.and_false, Bool.true_or, Bool.false_or, Bool.or_true, Bool.or_false, if_true, if_false, Bool.false_eq_true, reduceIte] at hr
        go_wp2_with fail
        refine (HWH.out _ (HINS.out _ hK1)).mono ?_
        rintro e w2 ⟨rfl, hk2⟩
        have hK2 := hK1.trans hk2 (fun _ _ h => h)
        have hb2 := hk2.blk (fun h => h) hb1
        cases wh
        all_goals
          simp only [Bool.not_false, Bool.not_true, Bool.true_and, Bool.false_and, Bool.and_true, Bool.and_false, Bool.true_or, Bool.false_or, Bool.or_true, Bool.or_false, if_true, if_false, Bool.false_eq_true, reduceIte] at hr
          subst hr
          go_wp2_with fail
          first
            | (go_ret; exact ⟨rfl, hK2⟩)
            | (go_meet; exact ⟨hb2, hK2, trivial⟩)
    case true =>
      simp only [r3, Bool.not_false, Bool.not_true, Bool.true_and, Bool.false_and, Bool.and_true, Bool.and_false, Bool.true_or, Bool.false_or, Bool.or_true, Bool.or_false, if_true, if_false, Bool.false_eq_true, reduceIte] at hr
      go_wp2_with fail
      refine (HWR.out _).mono ?_
      rintro e w2 ⟨rfl, hk2⟩
      have hK2 := hK1.trans hk2 (fun _ _ h => h)
      have hb2 := hk2.blk (fun h => h) hb1
      clear hk2 hK1 hb1 x0 x1 x2 x3 x4
      have x0 := hb2.cell 0
      have x1 := hb2.cell 1
      have x2 := hb2.cell 2
      have x3 := hb2.cell 3
      have x4 := hb2.cell 4
      cases wr
      case true =>
        simp only [Bool.not_false, Bool.not_true, Bool.true_and, Bool.false_and, Bool.and_true, Bool.and_false, Bool.true_or, Bool.false_or, Bool.or_true, Bool.or_false, if_true, if_false, Bool.false_eq_true, reduceIte] at hr
        subst hr
        go_wp2_with fail
        go_ret
        exact ⟨rfl, hK2⟩
      case false =>
      simp only [Bool.not_false, Bool.not_true, Bool.true_and, Bool.false_and, Bool.and_true, Bool.and_false, Bool.true_or, Bool.false_or, Bool.or_true, Bool.or_false, if_true, if_false, Bool.false_eq_true, reduceIte] at hr
      cases r4 : (x.op == 24)
      case false =>
        simp only [r4, Bool.not_false, Bool.not_true, Bool.true_and, Bool.false_and, Bool.and_true, Bool.and_false, Bool.true_or, Bool.false_or, Bool.or_true, Bool.or_false, if_true, if_false, Bool.false_eq_true, reduceIte] at hr
        subst hr
        go_wp2_with fail
        go_meet
        exact ⟨hb2, hK2, trivial⟩
      case true =>
        simp only [r4, Bool.not_false, Bool.not_true, Bool.true_and, Bool.false_and, Bool.and_true, Bool.and_false, Bool.true_or, Bool.false_or, Bool.or_true, Bool.or_false, if_true, if_false, Bool.false_eq_true, reduceIte] at hr
        go_wp2_with fail
        refine (HWH.out _ (HINS.out _ hK2)).mono ?_
        rintro e w3 ⟨rfl, hk3⟩
        have hK3 := hK2.trans hk3 (fun _ _ h => h)
        have hb3 := hk3.blk (fun h => h) hb2
        cases wh
        all_goals
          simp only [Bool.not_false, Bool.not_true, Bool.true_and, Bool.false_and, Bool.and_true, Bool.and_false, Bool.true_or, Bool.false_or, Bool.or_true, Bool.or_false, if_true, if_false, Bool.false_eq_true, reduceIte] at hr
          subst hr
          go_wp2_with fail
          first
            | (go_ret; exact ⟨rfl, hK3⟩)
            | (go_meet; exact ⟨hb3, hK3, trivial⟩)
  case rest =>
  obtain ⟨hb1, hK1, rfl⟩ := hcut
  clear hr hBn hKn HKN HWR HWH
  have hrc := HRC.out
  unfold restC at hrc
  generalize isCallB x = ic at *
  have x0 := hb1.cell 0
  have x4 := hb1.cell 4
  go_wp2_with fail
  refine (HCA.out _ (HINS.out _ hK1)).mono ?_
  rintro e w2 ⟨rfl, hk2⟩
  have hK2 := hK1.trans hk2 (fun _ _ h => h)
  have hb2 := hk2.blk (fun h => h) hb1
  clear x0 x4 hb1
  have x0 := hb2.cell 0
  have x4 := hb2.cell 4
  cases ic
  case true =>
    simp only [if_true] at hrc
    unfold callC at hrc
    generalize ht : (i : Int) + 1 + x.imm = t at *
    by_cases t1 : t < 1
    · rw [if_pos t1] at hrc
      have t1d : decide (t < 1) = true := decide_eq_true t1
      clear t1
      subst hrc
      go_wp2_with fail
      go_ret
      exact ⟨rfl, hK2⟩
    rw [if_neg t1] at hrc
    have t1d : decide (t < 1) = false := decide_eq_false t1
    by_cases t2 : (l.length : Int) ≤ t
    · rw [if_pos t2] at hrc
      have t2d : decide ((l.length : Int) ≤ t) = true := decide_eq_true t2
      clear t1 t2
      subst hrc
      go_wp2_with fail
      go_ret
      exact ⟨rfl, hK2⟩
    rw [if_neg t2] at hrc
    have t2d : decide ((l.length : Int) ≤ t) = false := decide_eq_false t2
    obtain ⟨n, rfl⟩ : ∃ n : Nat, t = n := ⟨t.toNat, by omega⟩
    rw [Int.toNat_natCast] at hrc
    have hn : n < l.length := by omega
    obtain ⟨b, hb⟩ : ∃ b, (secL l)[n]? = some b := ⟨_, List.getElem?_eq_getElem (by rw [sec_len]; omega)⟩
    obtain ⟨sg, sc, rfl, hsl, hsg⟩ := Sl.some_ hS (by rw [List.length_map, sec_len]; omega)
    have d0 := Bls.cell (Sl.kept hK2 hS (fun _ _ h => h)) hb
    rw [List.length_map, sec_len] at *
    rw [hb] at hrc
    clear t1 t2 hb
    cases b
    all_goals
      simp only [Option.some.injEq, if_true, if_false, Bool.false_eq_true, reduceIte] at hrc
      subst hrc
      go_wp2_with fail
      go_ret
      exact ⟨rfl, hK2⟩
  case false =>
    simp only [Bool.false_eq_true, if_false] at hrc
    cases q1 : (x.op == 133) <;> cases q2 : decide (x.imm < 1) <;> cases q3 : decide (28 < x.imm)
    all_goals
      simp only [q1, q2, q3, Bool.not_false, Bool.not_true, Bool.true_and, Bool.false_and, Bool.and_true, Bool.and_false, Bool.true_or, Bool.false_or, Bool.or_true, Bool.or_false, if_true, if_false, Bool.false_eq_true, reduceIte] at hrc
      subst hrc
      go_wp2_with fail
      go_ret
      exact ⟨rfl, hK2⟩

end Go.Proofs.YtlkgmcacbfoijaaGreat

