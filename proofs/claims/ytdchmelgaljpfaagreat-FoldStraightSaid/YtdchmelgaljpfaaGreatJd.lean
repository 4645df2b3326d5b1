import Derived.Test.YtdchmelgaljpfaaGreatJc
set_option linter.unusedSimpArgs false
set_option linter.unusedVariables false
namespace Go.Proofs.YtdchmelgaljpfaaGreat
open Go.RowKit

/-! ### lists of slots, in memory -/
def Ins (w : World) (v : Value) (l : List In) : Prop := ∃ a c, v = .slice a l.length c ∧ l.length ≤ c ∧ ∀ (i : Nat) (x : In), l[i]? = some x → ∃ g off, a = some ⟨g, off, none⟩ ∧ g < w.heap.size ∧ ∀ k u, (inVals x)[k]? = some u → w.cell? ⟨g, off + i * 5 + k, none⟩ = some u
section
variable {w w' : World} {v : Value} {l : List In}
theorem Ins.kept (h : Ins w v l) (hk : Kept (fun _ => False) w w') : Ins w' v l := by
  obtain ⟨a, c, hv, hl, h⟩ := h
  refine ⟨a, c, hv, hl, fun i x hx => ?_⟩
  obtain ⟨g, off, ha, hg, hc⟩ := h i x hx
  exact ⟨g, off, ha, Nat.lt_of_lt_of_le hg hk.size, fun k u hu => (hk.cell (p := ⟨g, off + i * 5 + k, none⟩) hg (fun h => h)).trans (hc k u hu)⟩
theorem Ins.any (h : Ins w v l) : ∃ a c, v = .slice a l.length c := by
  obtain ⟨a, c, hv, _⟩ := h
  exact ⟨a, c, hv⟩
theorem Ins.at_ {a : Option Addr} {n c : Nat} (h : Ins w (.slice a n c) l) {i : Nat} {x : In} (hx : l[i]? = some x) : ∃ g off, a = some ⟨g, off, none⟩ ∧ g < w.heap.size ∧
    w.cell? ⟨g, off + i * 5, none⟩ = some (.int .u8 x.op) ∧ w.cell? ⟨g, off + i * 5 + 1, none⟩ = some (.int .u8 x.dst) ∧ w.cell? ⟨g, off + i * 5 + 2, none⟩ = some (.int .u8 x.src) ∧
    w.cell? ⟨g, off + i * 5 + 3, none⟩ = some (.int .i16 x.off) ∧ w.cell? ⟨g, off + i * 5 + 4, none⟩ = some (.int .i32 x.imm) := by
  obtain ⟨a', c', hv, _, hc⟩ := h
  obtain ⟨g, off, ha, hg, hcell⟩ := hc i x hx
  cases hv
  exact ⟨g, off, ha, hg, hcell 0 _ rfl, hcell 1 _ rfl, hcell 2 _ rfl, hcell 3 _ rfl, hcell 4 _ rfl⟩
end
structure InsOk (l : List In) : Prop where
  len : l.length ≤ 1000000
  ok : ∀ x ∈ l, InOk x
theorem InsOk.at_ {l : List In} (h : InsOk l) {i : Nat} {x : In} (hx : l[i]? = some x) : InOk x := h.ok x (List.mem_of_getElem? hx)

/-! ### calls -/
def isCallB (x : In) : Bool := ((x.op == 133) && (x.src == 1)) || ((x.op == 24) && (x.src == 4))
set_option maxHeartbeats 4000000 in
theorem calls_any (l : List In) (a : Option Addr) (c i : Nat) (x : In) (w : World) (h : Ins w (.slice a l.length c) l) (hok : InsOk l) (hx : l[i]? = some x) :
    Calls Tryz.prog 108 #[.slice a l.length c, .int .i64 i] w fun e w' => e = .returned (.tuple #[.int .i64 ((i : Int) + 1 + x.imm), .bool (isCallB x)]) ∧ Kept (fun _ => False) w w' := by
  have hi := (List.getElem?_eq_some_iff.1 hx).1
  have hlen := hok.len
  have him := (hok.at_ hx).imm
  obtain ⟨g, off, rfl, hg, c0, c1, c2, c3, c4⟩ := h.at_ hx
  obtain ⟨r, hr⟩ : ∃ r, isCallB x = r := ⟨_, rfl⟩
  rw [hr]
  unfold isCallB at hr
  cases h1 : (x.op == 133) <;> cases h2 : (x.src == 1) <;> cases h3 : (x.op == 24)
  all_goals
    simp only [h1, h2, h3, Bool.not_false, Bool.not_true, Bool.true_and, Bool.false_and, Bool.and_true, Bool.and_false, Bool.true_or, Bool.false_or, Bool.or_true, Bool.or_false] at hr
    subst hr
    clear hx h hok
    go_enter Tryz.func108, Tryz.ntmps108
    go_wp2_with fail
    refine wp_region_mix0 [.w, .w, .w, .l, .w, .w, .w, .w, .w, .l, .w, .w, .w, .l, .w, .w, .w, .w, .w] (by kernel_rfl) (by kernel_rfl) ?_
    repeat (first
      | (refine mix_w1 ?_; go_big_quiet_step (fail); refine wpQuiet_nil ?_)
      | (refine mix_l1 rfl ?_; go_big_quiet_step (fail); refine wpQuiet_nil ?_))
    refine mix_done ?_
    go_wp2_with fail
    go_ret2
    exact ⟨rfl, ((Kept.refl _ w).alloc _).drew⟩

/-! ### jumps -/
def isJumpB (x : In) : Bool := (((clsI x == 5) || (clsI x == 6)) && (codeI x != 8)) && (codeI x != 9)
set_option maxHeartbeats 4000000 in
theorem jumps_any (l : List In) (a : Option Addr) (c i : Nat) (x : In) (w : World) (h : Ins w (.slice a l.length c) l) (hok : InsOk l) (hx : l[i]? = some x) :
    Calls Tryz.prog 111 #[.slice a l.length c, .int .i64 i] w fun e w' => e = .returned (.tuple #[.int .i64 ((i : Int) + 1 + x.off), .bool (isJumpB x)]) ∧ Kept (fun _ => False) w w' := by
  have hi := (List.getElem?_eq_some_iff.1 hx).1
  have hlen := hok.len
  have him := (hok.at_ hx).off
  have HC := Lib.hid (fun W => class_any x.op W (hok.at_ hx).op)
  have HK := Lib.hid (fun W => code_any x.op W (hok.at_ hx).op)
  have hc0 : clsI x = x.op % 8 := rfl
  have hk0 : codeI x = x.op / 16 := rfl
  rw [← hc0] at HC
  rw [← hk0] at HK
  obtain ⟨g, off, rfl, hg, c0, c1, c2, c3, c4⟩ := h.at_ hx
  obtain ⟨r, hr⟩ : ∃ r, isJumpB x = r := ⟨_, rfl⟩
  rw [hr]
  unfold isJumpB at hr
  generalize clsI x = cl at *
  generalize codeI x = k at *
  clear hc0 hk0
  cases h1 : (cl == 5) <;> cases h2 : (cl == 6) <;> cases h3 : (k != 8)
  all_goals
    simp only [h1, h2, h3, Bool.not_false, Bool.not_true, Bool.true_and, Bool.false_and, Bool.and_true, Bool.and_false, Bool.true_or, Bool.false_or, Bool.or_true, Bool.or_false] at hr
    subst hr
    clear hx h hok
    go_enter Tryz.func111, Tryz.ntmps111
    go_wp2_with (first
      | (go_at_call 149; refine (HC.out _).mono ?_; rintro e w1 ⟨rfl, rfl⟩)
      | (go_at_call 150; refine (HK.out _).mono ?_; rintro e w1 ⟨rfl, rfl⟩))
    go_ret2
    exact ⟨rfl, (Kept.refl _ w).alloc _⟩

/-! ### Second -/
def secG : Bool → List In → List Bool
  | _, [] => []
  | p, x :: r => p :: secG (x.op == 24 && !p) r
/-- which slots are second ones -/
def secL (l : List In) : List Bool := secG false l
theorem secG_len : ∀ (p : Bool) (l : List In), (secG p l).length = l.length
  | _, [] => rfl
  | p, x :: r => by simp [secG, secG_len]
theorem secG_succ : ∀ (p : Bool) (l : List In) (i : Nat) (x : In) (b : Bool), l[i]? = some x → (secG p l)[i]? = some b → i + 1 < l.length → (secG p l)[i + 1]? = some (x.op == 24 && !b)
  | p, [], i, x, b, h, _, _ => by simp at h
  | p, y :: r, 0, x, b, h, h2, h3 => by
    simp at h
    subst h
    simp [secG] at h2
    subst h2
    cases r with
    | nil => simp at h3
    | cons z r => simp [secG]
  | p, y :: r, i + 1, x, b, h, h2, h3 => by
    simp only [List.getElem?_cons_succ] at h
    simp only [secG, List.getElem?_cons_succ] at h2 ⊢
    exact secG_succ _ r i x b h h2 (by simpa using h3)
theorem sec_succ {l : List In} {i : Nat} {x : In} {b : Bool} (h : l[i]? = some x) (h2 : (secL l)[i]? = some b) (h3 : i + 1 < l.length) : (secL l)[i + 1]? = some (x.op == 24 && !b) := secG_succ false l i x b h h2 h3
theorem sec_len (l : List In) : (secL l).length = l.length := secG_len false l
theorem sec_zero {l : List In} (h : 0 < l.length) : (secL l)[0]? = some false := by
  cases l with
  | nil => simp at h
  | cons x r => rfl
/-- the list as far as it is known, and what was there ahead of it -/
def mixL (B : List Bool) (n i : Nat) : List Bool := B.take i ++ List.replicate (n - i) false
theorem mixL_set {B : List Bool} {n i : Nat} {b : Bool} (hn : B.length = n) (hi : i < n) (hb : B[i]? = some b) : (mixL B n i).set i b = mixL B n (i + 1) := by
  unfold mixL
  have hl : (B.take i).length = i := by simp; omega
  rw [List.set_append, if_neg (by omega), hl, Nat.sub_self, List.take_add_one, hb]
  obtain ⟨m, hm⟩ : ∃ m, n - i = m + 1 := ⟨n - i - 1, by omega⟩
  rw [hm, List.replicate_succ, List.set_cons_zero, show n - (i + 1) = m by omega]
  simp

theorem mixL_lt {B : List Bool} {n i j : Nat} (hn : B.length = n) (h : j < i) (hi : i ≤ n) : (mixL B n i)[j]? = B[j]? := by
  unfold mixL
  rw [List.getElem?_append_left (by simp; omega), List.getElem?_take_of_lt h]
theorem mixL_at {B : List Bool} {n i : Nat} (hn : B.length = n) (h : i < n) : (mixL B n i)[i]? = some false := by
  unfold mixL
  have hl : (B.take i).length = i := by simp; omega
  rw [List.getElem?_append_right (by omega), hl, Nat.sub_self, List.getElem?_replicate, if_pos (by omega)]
theorem mixL_len {B : List Bool} {n i : Nat} (hn : B.length = n) (h : i ≤ n) : (mixL B n i).length = n := by
  unfold mixL
  simp
  omega
theorem mixL_one {l : List In} : mixL (secL l) l.length 1 = List.replicate l.length false := by
  cases l with
  | nil => rfl
  | cons x r => simp [mixL, secL, secG, List.replicate_succ]
theorem mixL_end {B : List Bool} {n i : Nat} (hn : B.length = n) (h : n ≤ i) : mixL B n i = B := by
  unfold mixL
  rw [List.take_of_length_le (by omega), show n - i = 0 by omega]
  simp
set_option maxHeartbeats 4000000 in
set_option maxRecDepth 100000 in
theorem second_any (l : List In) (a : Option Addr) (c : Nat) (w : World) (h : Ins w (.slice a l.length c) l) (hok : InsOk l) :
    Calls Tryz.prog 45 #[.slice a l.length c] w fun e w' => ∃ ov, e = .returned ov ∧ Bls w' ov (secL l) ∧ Kept (fun _ => False) w w' ∧ ∀ g, ov.ownBlock = some g → w.heap.size ≤ g := by
  have hlen := hok.len
  obtain ⟨i0, hI0, hI1, hI2, hI3⟩ := info_parts infoB
  go_enter Tryz.func45, Tryz.ntmps45
  go_wp2_with (refine wpList_makeSl (w := w) rfl (.tmp 6) (.tmp 6) 85 rfl (.bool false) rfl Tryz.underlying85 hI0 hI1 hI2 hI3 (by omega) l.length rfl rfl (by omega) ?_; intro w1 hB1 hk1)
  have hB1' : Bls w1 (.slice (some ⟨w.heap.size, 0, none⟩) l.length l.length) (mixL (secL l) l.length 1) := by
    rw [mixL_one]
    unfold Bls
    rw [List.map_replicate]
    exact hB1
  clear hB1
  go_loopw [4] (fun iv wr => ∃ j : Nat, iv = .int .i64 ((j : Int) + 1) ∧ (j + 1 ≤ l.length ∨ j = 0) ∧ Bls wr (.slice (some ⟨w.heap.size, 0, none⟩) l.length l.length) (mixL (secL l) l.length (j + 1)) ∧ Kept (fun _ => False) w wr) (fun iv _ => l.length - (intOf iv).toNat)
  case atStart => exact ⟨0, rfl, .inr rfl, hB1', hk1⟩
  case round =>
    clear hB1' hk1
    obtain ⟨j, rfl, hj, hB, hK⟩ := hrel
    by_cases hlt : j + 1 < l.length
    case neg =>
      rw [mixL_end (sec_len l) (by omega)] at hB
      have hnd : decide ((j : Int) + 1 < l.length) = false := decide_eq_false (by omega)
      clear hj hlt
      go_wp2_with fail
      go_ret
      exact ⟨_, rfl, hB, hK, fun g hg => Nat.le_of_eq (Option.some.inj (show some w.heap.size = some g from hg))⟩
    case pos =>
      obtain ⟨x, hx⟩ : ∃ x, l[j]? = some x := ⟨_, List.getElem?_eq_getElem (by omega)⟩
      obtain ⟨b, hb⟩ : ∃ b, (secL l)[j]? = some b := ⟨_, List.getElem?_eq_getElem (by rw [sec_len]; omega)⟩
      have hs := sec_succ hx hb hlt
      obtain ⟨g, off, rfl, hg, c0, c1, c2, c3, c4⟩ := (h.kept hK).at_ hx
      have hml := mixL_len (i := j + 1) (sec_len l) (by omega)
      have d0 := Bls.cell hB (i := j) (x := b) (by rw [mixL_lt (sec_len l) (by omega) (by omega)]; exact hb)
      have d1 := Bls.cell hB (i := j + 1) (x := false) (mixL_at (sec_len l) hlt)
      have f1 := Sl.frozen hB (j + 1)
      obtain ⟨v, hv⟩ : ∃ v, (x.op == 24 && !b) = v := ⟨_, rfl⟩
      rw [hv] at hs
      have hB2 := Bls.set hB (i := j + 1) (by rw [hml]; omega) v
      rw [mixL_set (sec_len l) hlt hs] at hB2
      have hK2 : Kept (fun _ => False) w (wr.setCell ⟨w.heap.size, j + 1, none⟩ (.bool v)) := hK.setCell (fun h => by simp at h) _
      clear hs hx hb hml hB
      cases h24 : (x.op == 24) <;> cases b
      all_goals
        simp only [h24, Bool.not_false, Bool.not_true, Bool.true_and, Bool.false_and] at hv
        subst hv
        go_wp2_with fail
        exact ⟨⟨j + 1, by go_num, .inl (by omega), hB2, hK2⟩, by simp [intOf]; omega⟩

end Go.Proofs.YtdchmelgaljpfaaGreat
