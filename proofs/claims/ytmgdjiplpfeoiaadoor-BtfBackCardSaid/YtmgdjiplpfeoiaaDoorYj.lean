import Derived.Test.YtmgdjiplpfeoiaaDoorYb
import Derived.Test.YtmgdjiplpfeoiaaDoorTy
import Derived.Laws.BitsAllLaws
import Derived.Test.YtmgdjiplpfeoiaaDoorTu
import Derived.Outline
import Derived.Deep.DeepCutAuto
import Derived.Deep.CutBlock
set_option linter.unusedSimpArgs false
set_option linter.unusedVariables false
namespace Go.Proofs.YtmgdjiplpfeoiaaDoor
open Go.RowKit

/-! ### a number of four bytes -/
/-- the number of bytes, the lowest first -/
def leN : List UInt8 → Nat
  | [] => 0
  | b :: r => b.toNat + 256 * leN r
theorem leN_snoc (b : UInt8) : ∀ r, leN (r ++ [b]) = leN r + 256 ^ r.length * b.toNat
  | [] => by simp [leN]
  | x :: r => by
    have := leN_snoc b r
    simp only [List.cons_append, leN, this, List.length_cons, Nat.pow_succ]
    rw [Nat.mul_add, Nat.mul_comm (256 ^ r.length) 256, Nat.mul_assoc]
    omega
theorem leN_lt : ∀ r, leN r < 256 ^ r.length
  | [] => by simp [leN]
  | x :: r => by
    have := leN_lt r
    have hx := x.toNat_lt
    simp only [leN, List.length_cons, Nat.pow_succ]
    omega
theorem By.cell1 {w : World} {v : Value} {l : List UInt8} (h : By w v l) {i : Nat} {x : UInt8} (hx : l[i]? = some x) : ∃ g off c, v = .slice (some ⟨g, off, none⟩) l.length c ∧ w.cell? ⟨g, off + i, none⟩ = some (.int .u8 (x.toNat : Int)) := by
  rcases h with ⟨c, rfl, rfl⟩ | ⟨g, off, c, rfl, _, _, hc⟩
  · simp at hx
  · refine ⟨g, off, c, rfl, hc i _ ?_⟩
    simp [bcells, hx]

theorem wrapU (n : Nat) (h : n < 18446744073709551616) : IntKind.u64.wrap (n : Int) = (n : Int) := by
  rw [IntKind.wrap_u64]
  omega
theorem orMul (a b i m : Nat) (hm : m = 2 ^ i) (h : a < m) : a ||| (b * m) = b * m + a := by
  subst hm
  rw [Nat.or_comm, ← Nat.shiftLeft_eq, Nat.shiftLeft_add_eq_or_of_lt h]
theorem unl_step (i : Nat) (hi : i < 4) (a x : Nat) (ha : a < 256 ^ i) (hx : x < 256) : bits BinOp.or .u64 (a : Int) (IntKind.u64.wrap (IntKind.u64.wrap (x : Int) * 2 ^ (8 * i))) = ((a + 256 ^ i * x : Nat) : Int) := by
  have hp : ((2 : Int) ^ (8 * i)) = ((256 ^ i : Nat) : Int) := by
    rw [show (256 : Nat) ^ i = 2 ^ (8 * i) by rw [Nat.pow_mul]]
    simp
  have hm : 256 ^ i ≤ 16777216 := by
    rcases (by omega : i = 0 ∨ i = 1 ∨ i = 2 ∨ i = 3) with rfl | rfl | rfl | rfl <;> decide
  have hxm : x * 256 ^ i ≤ 255 * 16777216 := Nat.mul_le_mul (by omega) hm
  rw [wrapU x (by omega), hp, show ((x : Int) * ((256 ^ i : Nat) : Int)) = ((x * 256 ^ i : Nat) : Int) by simp, wrapU _ (by omega), u64_or_nat a _ (by omega) (by omega), orMul a x (8 * i) (256 ^ i) (by rw [Nat.pow_mul]) ha, Nat.mul_comm x, Nat.add_comm]

set_option maxHeartbeats 2000000 in
set_option maxRecDepth 100000 in
theorem unlittle_any (v : Value) (l : List UInt8) (w : World) (h : By w v l) (hl : l.length = 4) :
    Calls Tryd.prog 63 #[v] w fun e w' => e = .returned (.int .u64 (leN l : Nat)) ∧ w = w' := by
  obtain ⟨a, c, rfl⟩ := h.any
  rw [hl] at h ⊢
  go_enter Tryd.func63, Tryd.ntmps63
  go_wp2_with fail
  go_loopw [3, 8] (fun nv iv wr => ∃ i : Nat, iv = .int .i64 i ∧ nv = .int .u64 (leN (l.take i) : Nat) ∧ i ≤ 4 ∧ w = wr) (fun _ iv _ => 4 - (intOf iv).toNat)
  case atStart => exact ⟨0, rfl, rfl, by omega, rfl⟩
  case round =>
    obtain ⟨i, rfl, rfl, hi, rfl⟩ := hrel
    by_cases hlt : i < 4
    case neg =>
      obtain rfl : i = 4 := by omega
      rw [List.take_of_length_le (by omega)]
      go_wp2_with fail
      go_ret
      exact ⟨rfl, rfl⟩
    case pos =>
      obtain ⟨x, hx⟩ : ∃ x, l[i]? = some x := ⟨_, List.getElem?_eq_getElem (by omega)⟩
      obtain ⟨g, off, c', hv, hc⟩ := h.cell1 hx
      obtain ⟨rfl, -, rfl⟩ := Value.slice.inj hv
      have hsn : leN (l.take (i + 1)) = leN (l.take i) + 256 ^ i * x.toNat := by
        rw [List.take_add_one, hx]
        simp only [Option.toList_some]
        rw [leN_snoc, List.length_take, Nat.min_eq_left (by omega)]
      have hlo := leN_lt (l.take i)
      rw [List.length_take, Nat.min_eq_left (by omega)] at hlo
      have hst := unl_step i hlt _ x.toNat hlo x.toNat_lt
      rw [← hsn] at hst
      have HST := Lib.hid hst
      clear hst hsn hlo
      go_wp2_with fail
      exact ⟨⟨i + 1, by go_num, by rw [HST.out], by omega, trivial⟩, by simp [intOf]; omega⟩


/-! ### readers -/
abbrev St := Nat × Bool
/-- bytes that are taken; zeros where there are too few, or it is bad already -/
def takeR (b : List UInt8) (n : Nat) (s : St) : List UInt8 × St := if s.2 = true ∨ b.length - s.1 < n then (List.replicate n 0, (s.1, true)) else ((b.drop s.1).take n, (s.1 + n, false))
theorem takeR_len (b : List UInt8) (n : Nat) (s : St) : (takeR b n s).1.length = n := by
  unfold takeR
  split
  · simp
  · rename_i h
    simp at h
    simp
    omega
/-- a reader in memory -/
structure RD (T : TypeId) (w : World) (g : Nat) (bv : Value) (b : List UInt8) (s : St) : Prop where
  blk : Blk w g T #[bv, .int .i64 (s.1 : Int), .bool s.2]
  by_ : By w bv b
  ne : ∀ k, bv.ownBlock = some k → k ≠ g
  le : s.1 ≤ b.length
  few : b.length ≤ 1000000
theorem RD.quiet {T : TypeId} {w w' : World} {g : Nat} {bv : Value} {b : List UInt8} {s : St} (h : RD T w g bv b s) (hk : Kept (fun _ => False) w w') : RD T w' g bv b s :=
  ⟨hk.blk (fun h => h) h.blk, h.by_.kept hk (fun _ _ h => h), h.ne, h.le, h.few⟩
theorem RD.kept {T : TypeId} {F : Nat → Prop} {w w' : World} {g : Nat} {bv : Value} {b : List UInt8} {s : St} (h : RD T w g bv b s) (hk : Kept F w w') (h1 : ¬ F g) (h2 : ∀ k, bv.ownBlock = some k → ¬ F k) : RD T w' g bv b s :=
  ⟨hk.blk h1 h.blk, h.by_.kept hk h2, h.ne, h.le, h.few⟩

theorem run_cut (g off len c at_ n : Nat) (h : at_ + n ≤ len) (hc : len ≤ c) : ∃ o, (0 < n → o = off + at_) ∧ ∀ w : World,
    (Instr.sliceAt 35 (.slice (some ⟨g, off, none⟩) len c) (some (.int .i64 at_)) (some (.int .i64 ((at_ : Int) + n))) none).run Tryd.prog w = .ok (.slice (some ⟨g, o, none⟩) n (c - at_)) w := by
  refine ⟨if c = at_ then off else off + at_, fun h0 => if_neg (by omega), fun w => ?_⟩
  obtain ⟨i0, hI0, hI1, hI2, hI3⟩ := info_parts infoU8
  rw [show ((at_ : Int) + n) = ((at_ + n : Nat) : Int) by simp]
  have e1 : at_ + n ≤ c := by omega
  have e2 : at_ ≤ at_ + n := by omega
  by_cases e3 : c = at_
  · obtain rfl : n = 0 := by omega
    subst e3
    simp [Instr.sliceAt, Instr.slice, run_underlying Tryd.underlying35, Instr.sliceBounds, run_sliceBound, sizeOf, typeInfo, hI0, hI2, add_n]
  · simp [Instr.sliceAt, Instr.slice, run_underlying Tryd.underlying35, Instr.sliceBounds, run_sliceBound, sizeOf, typeInfo, hI0, hI2, add_n, e1, e2, e3, -Int.natCast_add]
theorem run_cut0 (c : Nat) (w : World) :
    (Instr.sliceAt 35 (.slice none 0 c) (some (.int .i64 0)) (some (.int .i64 0)) none).run Tryd.prog w = .ok (.slice none 0 c) w := by
  obtain ⟨i0, hI0, hI1, hI2, hI3⟩ := info_parts infoU8
  simp [Instr.sliceAt, Instr.slice, run_underlying Tryd.underlying35, Instr.sliceBounds, run_sliceBound, sizeOf, typeInfo, hI0, add_n]
/-- a piece of bytes -/
theorem By.cut {v : Value} {l : List UInt8} {w0 : World} (h : By w0 v l) (at_ n : Nat) (hle : at_ + n ≤ l.length) : ∃ ov, (∀ w, (Instr.sliceAt 35 v (some (.int .i64 at_)) (some (.int .i64 ((at_ : Int) + n))) none).run Tryd.prog w = .ok ov w) ∧
    (∀ w, By w v l → By w ov ((l.drop at_).take n)) ∧ (∀ k, ov.ownBlock = some k → v.ownBlock = some k) := by
  rcases h with ⟨c, rfl, rfl⟩ | ⟨g, off, c, rfl, _, hc, _⟩
  · obtain ⟨rfl, rfl⟩ : at_ = 0 ∧ n = 0 := by simp at hle; omega
    exact ⟨.slice none 0 c, fun w => by simpa using run_cut0 c w, fun w hw => by simpa using hw, fun k hk => hk⟩
  · obtain ⟨o, ho, hr⟩ := run_cut g off l.length c at_ n hle hc
    have hlen : ((l.drop at_).take n).length = n := by simp; omega
    refine ⟨_, hr, fun w hw => ?_, fun k hk => hk⟩
    rcases hw with ⟨c', hv, _⟩ | ⟨g', off', c', hv, hg, _, hcell⟩
    · cases hv
    · obtain ⟨ha, _, rfl⟩ := Value.slice.inj hv
      simp only [Option.some.injEq, Addr.mk.injEq, and_true] at ha
      obtain ⟨rfl, rfl⟩ := ha
      refine .inr ⟨g, o, c - at_, by rw [hlen], hg, by omega, fun j u hu => ?_⟩
      have hj : j < n := by
        have := (List.getElem?_eq_some_iff.1 hu).1
        rw [bcells_len, hlen] at this
        exact this
      rw [ho (by omega), Nat.add_assoc]
      refine hcell (at_ + j) u ?_
      simp only [bcells, List.getElem?_map] at hu ⊢
      rw [List.getElem?_take_of_lt hj, List.getElem?_drop] at hu
      exact hu

set_option maxHeartbeats 2000000 in
set_option maxRecDepth 100000 in
theorem take_any (g : Nat) (bv : Value) (b : List UInt8) (n : Nat) (s : St) (w : World) (h : RD 79 w g bv b s) (hn : n ≤ 1000000) :
    Calls Tryd.prog 64 #[.pointer (some ⟨g, 0, none⟩), .int .i64 n] w fun e w' => ∃ ov, e = .returned ov ∧ By w' ov (takeR b n s).1 ∧ RD 79 w' g bv b (takeR b n s).2 ∧ Kept (fun k => k = g) w w' ∧ (∀ k, ov.ownBlock = some k → k ≠ g) := by
  obtain ⟨i0, hI0, hI1, hI2, hI3⟩ := info_parts infoU8
  obtain ⟨at_, bad⟩ := s
  have hb := h.blk
  have hle := h.le
  have hfew := h.few
  simp only at hb hle
  obtain ⟨A, c, rfl⟩ := h.by_.any
  have c0 := hb.cell 0
  have c1 := hb.cell 1
  have c2 := hb.cell 2
  have f1 := hb.frozen 1
  have f2 := hb.frozen 2
  have hlt := hb.lt
  by_cases hbd : bad = true ∨ b.length - at_ < n
  · have hT : takeR b n (at_, bad) = (List.replicate n 0, (at_, true)) := by unfold takeR; rw [if_pos hbd]
    rw [hT]
    have hR : RD 79 (w.setCell ⟨g, 2, none⟩ (.bool true)).drew g (.slice A b.length c) b (at_, true) := by
      refine ⟨?_, ?_, h.ne, hle, hfew⟩
      · exact (hb.set_ 2 (.bool true)).drew
      · exact (h.by_.kept ((Kept.refl (fun k => k = g) w).setCell (fun _ => rfl) _) h.ne).drew
    have hK : Kept (fun k => k = g) w (w.setCell ⟨g, 2, none⟩ (.bool true)).drew := ((Kept.refl (fun k => k = g) w).setCell (fun _ => rfl) _).drew
    have hcase : bad = true ∨ (bad = false ∧ ¬ ((n : Int) ≤ (b.length : Int) - at_)) := by
      cases bad
      · exact .inr ⟨rfl, by simp at hbd; omega⟩
      · exact .inl rfl
    have hsz := hK.size
    have HSE := Lib.hid (show (w.setCell ⟨g, 2, none⟩ (.bool true)).drew.heap.size = w.heap.size by simp [World.setCell])
    rcases hcase with rfl | ⟨rfl, hgt⟩
    all_goals
      clear hbd hT
      go_enter Tryd.func64, Tryd.ntmps64
      go_wp2_with fail
      refine wp_region_mix0 [.w, .w, .w, .w, .l, .w, .w, .w, .w, .w, .l, .w, .w, .w, .w, .l, .w, .w, .w, .w, .w, .t] (by kernel_rfl) (by kernel_rfl) ?_
      repeat (first
        | (refine mix_w1 ?_; go_big_quiet_step (fail); refine wpQuiet_nil ?_)
        | (refine mix_l1 rfl ?_; go_big_quiet_step (fail); refine wpQuiet_nil ?_))
      refine mix_t fun Q' hQ' => ?_
      go_wp2_with fail
      refine mix_done ?_
      go_wp2_with (refine wpList_makeBs (w := (w.setCell ⟨g, 2, none⟩ (.bool true)).drew) rfl (.tmp 30) (.tmp 30) 35 rfl Tryd.underlying35 hI0 hI1 hI2 hI3 n rfl rfl (by omega) ?_; intro w2 hO2 hk2; rw [HSE.out] at hO2)
      go_ret
      refine ⟨_, rfl, hO2.by_, hR.quiet hk2, hK.trans hk2 (fun _ _ h => h.elim), fun k hk => ?_⟩
      have hk2 := Option.some.inj (show some w.heap.size = some k from hk)
      omega
  · obtain ⟨rfl, hge⟩ : bad = false ∧ n ≤ b.length - at_ := by
      cases bad
      · exact ⟨rfl, by simp at hbd; omega⟩
      · exact absurd (.inl rfl) hbd
    have hT : takeR b n (at_, false) = ((b.drop at_).take n, (at_ + n, false)) := by unfold takeR; rw [if_neg hbd]
    rw [hT]
    obtain ⟨ov, hcut, hov, hown⟩ := h.by_.cut at_ n (by omega)
    have hdc : decide ((b.length : Int) - at_ < n) = false := decide_eq_false (by omega)
    clear hbd hT
    go_enter Tryd.func64, Tryd.ntmps64
    go_wp2_with fail
    refine wp_region_mix0 [.w, .w, .w, .w, .l, .w, .w, .w, .w, .w, .l, .w, .w, .w, .w, .l, .w, .w, .w, .w, .w, .t] (by kernel_rfl) (by kernel_rfl) ?_
    repeat (first
      | (refine mix_w1 ?_; go_big_quiet_step (fail); refine wpQuiet_nil ?_)
      | (refine mix_l1 rfl ?_; go_big_quiet_step (fail); refine wpQuiet_nil ?_))
    refine mix_t fun Q' hQ' => ?_
    go_wp2_with fail
    refine mix_done ?_
    go_wp2_with fail
    refine wp_region_mix0 [.w, .w, .w, .l, .w, .w, .w, .l, .w, .w, .w, .w, .w, .l, .w, .w] (by kernel_rfl) (by kernel_rfl) ?_
    repeat (first
      | (refine mix_w1 ?_; go_big_quiet_step (fail); refine wpQuiet_nil ?_)
      | (refine mix_l1 rfl ?_; go_big_quiet_step (fail); refine wpQuiet_nil ?_))
    refine mix_done ?_
    go_wp2_with fail
    go_ret
    have hKf : Kept (fun k => k = g) w ((w.setCell ⟨g, 2, none⟩ (.bool false)).setCell ⟨g, 1, none⟩ (.int .i64 ((at_ : Int) + n))).drew.drew := (((Kept.refl (fun k => k = g) w).setCell (fun _ => rfl) _).setCell (fun _ => rfl) _).drew.drew
    have hbf : Blk ((w.setCell ⟨g, 2, none⟩ (.bool false)).setCell ⟨g, 1, none⟩ (.int .i64 ((at_ : Int) + n))).drew.drew g 79 #[.slice A b.length c, .int .i64 ((at_ : Int) + n), .bool false] := ((hb.set_ 2 (.bool false)).set_ 1 (.int .i64 ((at_ : Int) + n)))
    exact ⟨_, rfl, hov _ (h.by_.kept hKf h.ne), ⟨by simpa using hbf, h.by_.kept hKf h.ne, h.ne, by simp; omega, hfew⟩, hKf, fun k hk => h.ne k (hown k hk)⟩

set_option maxHeartbeats 2000000 in
set_option maxRecDepth 100000 in
theorem reftake_any (g : Nat) (bv : Value) (b : List UInt8) (n : Nat) (s : St) (w : World) (h : RD 84 w g bv b s) (hn : n ≤ 1000000) :
    Calls Tryd.prog 67 #[.pointer (some ⟨g, 0, none⟩), .int .i64 n] w fun e w' => ∃ ov, e = .returned ov ∧ By w' ov (takeR b n s).1 ∧ RD 84 w' g bv b (takeR b n s).2 ∧ Kept (fun k => k = g) w w' ∧ (∀ k, ov.ownBlock = some k → k ≠ g) := by
  obtain ⟨i0, hI0, hI1, hI2, hI3⟩ := info_parts infoU8
  obtain ⟨at_, bad⟩ := s
  have hb := h.blk
  have hle := h.le
  have hfew := h.few
  simp only at hb hle
  obtain ⟨A, c, rfl⟩ := h.by_.any
  have c0 := hb.cell 0
  have c1 := hb.cell 1
  have c2 := hb.cell 2
  have f1 := hb.frozen 1
  have f2 := hb.frozen 2
  have hlt := hb.lt
  by_cases hbd : bad = true ∨ b.length - at_ < n
  · have hT : takeR b n (at_, bad) = (List.replicate n 0, (at_, true)) := by unfold takeR; rw [if_pos hbd]
    rw [hT]
    have hR : RD 84 (w.drew.setCell ⟨g, 2, none⟩ (.bool true)) g (.slice A b.length c) b (at_, true) := by
      refine ⟨?_, ?_, h.ne, hle, hfew⟩
      · exact (hb.drew.set_ 2 (.bool true))
      · exact (h.by_.kept ((Kept.refl (fun k => k = g) w).drew.setCell (fun _ => rfl) _) h.ne)
    have hK : Kept (fun k => k = g) w (w.drew.setCell ⟨g, 2, none⟩ (.bool true)) := ((Kept.refl (fun k => k = g) w).drew.setCell (fun _ => rfl) _)
    have hcase : bad = true ∨ (bad = false ∧ ¬ ((n : Int) ≤ (b.length : Int) - at_)) := by
      cases bad
      · exact .inr ⟨rfl, by simp at hbd; omega⟩
      · exact .inl rfl
    have hsz := hK.size
    have HSE := Lib.hid (show (w.drew.setCell ⟨g, 2, none⟩ (.bool true)).heap.size = w.heap.size by simp [World.setCell])
    rcases hcase with rfl | ⟨rfl, hgt⟩
    all_goals
      clear hbd hT
      go_enter Tryd.func67, Tryd.ntmps67
      go_wp2_with fail
      refine wp_region_mix0 [.w, .w, .w, .l, .w, .w, .w, .w, .w, .l, .w, .w, .w, .w, .l, .w, .w, .w] (by kernel_rfl) (by kernel_rfl) ?_
      repeat (first
        | (refine mix_w1 ?_; go_big_quiet_step (fail); refine wpQuiet_nil ?_)
        | (refine mix_l1 rfl ?_; go_big_quiet_step (fail); refine wpQuiet_nil ?_))
      refine mix_done ?_
      go_wp2_with (refine wpList_makeBs (w := (w.drew.setCell ⟨g, 2, none⟩ (.bool true))) rfl (.tmp 26) (.tmp 26) 35 rfl Tryd.underlying35 hI0 hI1 hI2 hI3 n rfl rfl (by omega) ?_; intro w2 hO2 hk2; rw [HSE.out] at hO2)
      go_ret
      refine ⟨_, rfl, hO2.by_, hR.quiet hk2, hK.trans hk2 (fun _ _ h => h.elim), fun k hk => ?_⟩
      have hk2 := Option.some.inj (show some w.heap.size = some k from hk)
      omega
  · obtain ⟨rfl, hge⟩ : bad = false ∧ n ≤ b.length - at_ := by
      cases bad
      · exact ⟨rfl, by simp at hbd; omega⟩
      · exact absurd (.inl rfl) hbd
    have hT : takeR b n (at_, false) = ((b.drop at_).take n, (at_ + n, false)) := by unfold takeR; rw [if_neg hbd]
    rw [hT]
    obtain ⟨ov, hcut, hov, hown⟩ := h.by_.cut at_ n (by omega)
    have hdc : decide ((b.length : Int) - at_ < n) = false := decide_eq_false (by omega)
    clear hbd hT
    go_enter Tryd.func67, Tryd.ntmps67
    go_wp2_with fail
    refine wp_region_mix0 [.w, .w, .w, .l, .w, .w, .w, .w, .w, .l, .w, .w, .w, .w, .l, .w, .w, .w] (by kernel_rfl) (by kernel_rfl) ?_
    repeat (first
      | (refine mix_w1 ?_; go_big_quiet_step (fail); refine wpQuiet_nil ?_)
      | (refine mix_l1 rfl ?_; go_big_quiet_step (fail); refine wpQuiet_nil ?_))
    refine mix_done ?_
    go_wp2_with fail
    refine wp_region_mix0 [.w, .w, .w, .l, .w, .w, .w, .l, .w, .w, .w, .w, .w, .l, .w, .w] (by kernel_rfl) (by kernel_rfl) ?_
    repeat (first
      | (refine mix_w1 ?_; go_big_quiet_step (fail); refine wpQuiet_nil ?_)
      | (refine mix_l1 rfl ?_; go_big_quiet_step (fail); refine wpQuiet_nil ?_))
    refine mix_done ?_
    go_wp2_with fail
    go_ret
    have hKf : Kept (fun k => k = g) w (w.setCell ⟨g, 1, none⟩ (.int .i64 ((at_ : Int) + n))).drew.drew := ((Kept.refl (fun k => k = g) w).setCell (fun _ => rfl) _).drew.drew
    have hbf : Blk (w.setCell ⟨g, 1, none⟩ (.int .i64 ((at_ : Int) + n))).drew.drew g 84 #[.slice A b.length c, .int .i64 ((at_ : Int) + n), .bool false] := (hb.set_ 1 (.int .i64 ((at_ : Int) + n)))
    exact ⟨_, rfl, hov _ (h.by_.kept hKf h.ne), ⟨by simpa using hbf, h.by_.kept hKf h.ne, h.ne, by simp; omega, hfew⟩, hKf, fun k hk => h.ne k (hown k hk)⟩

end Go.Proofs.YtmgdjiplpfeoiaaDoor
set_option linter.unusedSimpArgs false
set_option linter.unusedVariables false
namespace Go.Proofs.YtmgdjiplpfeoiaaDoor
open Go.RowKit

def byteR (b : List UInt8) (s : St) : Nat × St := (((takeR b 1 s).1.headD 0).toNat, (takeR b 1 s).2)
def numR (most : Nat) (b : List UInt8) (s : St) : Nat × St := if (takeR b 4 s).2.2 = true ∨ most < leN (takeR b 4 s).1 then (0, ((takeR b 4 s).2.1, true)) else (leN (takeR b 4 s).1, (takeR b 4 s).2)
def nmR (b : List UInt8) (s : St) : List UInt8 × St := takeR b (byteR b s).1 (byteR b s).2
theorem byteR_lt (b : List UInt8) (s : St) : (byteR b s).1 < 256 := ((takeR b 1 s).1.headD 0).toNat_lt
theorem nmR_len (b : List UInt8) (s : St) : (nmR b s).1.length < 256 := by
  unfold nmR
  rw [takeR_len]
  exact byteR_lt b s
theorem numR_le (most : Nat) (b : List UInt8) (s : St) : (numR most b s).1 ≤ most := by
  unfold numR
  split
  · exact Nat.zero_le _
  · rename_i h
    simp at h
    exact h.2
theorem one_of {l : List UInt8} (h : l.length = 1) : l = [l.headD 0] := by
  cases l with
  | nil => cases h
  | cons x r => cases r with
    | nil => rfl
    | cons y r => simp at h

set_option maxHeartbeats 2000000 in
set_option maxRecDepth 100000 in
theorem rbyte_any (g : Nat) (bv : Value) (b : List UInt8) (s : St) (w : World) (h : RD 79 w g bv b s) :
    Calls Tryd.prog 65 #[.pointer (some ⟨g, 0, none⟩)] w fun e w' => e = .returned (.int .i64 (byteR b s).1) ∧ RD 79 w' g bv b (byteR b s).2 ∧ Kept (fun k => k = g) w w' := by
  have hTK := Lib.hid (take_any g bv b 1 s w h (by omega))
  have hone := one_of (takeR_len b 1 s)
  have hE : (byteR b s).1 = ((takeR b 1 s).1.headD 0).toNat := rfl
  have hE2 : (byteR b s).2 = (takeR b 1 s).2 := rfl
  rw [hE, hE2]
  generalize (takeR b 1 s).1 = l1 at *
  generalize (takeR b 1 s).2 = s1 at *
  generalize hx : l1.headD 0 = x at *
  clear hx
  subst hone
  clear hE hE2
  have hxl := x.toNat_lt
  go_enter Tryd.func65, Tryd.ntmps65
  go_wp2_with fail
  refine hTK.out.mono ?_
  rintro e w1 ⟨ov, rfl, hov, hR, hk, hne⟩
  obtain ⟨vg, vo, vc, rfl, hc⟩ := hov.cell1 (i := 0) (x := x) rfl
  rw [Nat.add_zero] at hc
  have hl1 : ([x] : List UInt8).length = 1 := rfl
  rw [hl1] at *
  go_wp2_with fail
  go_ret
  exact ⟨rfl, hR, hk⟩

set_option maxHeartbeats 2000000 in
set_option maxRecDepth 100000 in
theorem rname_any (g : Nat) (bv : Value) (b : List UInt8) (s : St) (w : World) (h : RD 79 w g bv b s) :
    Calls Tryd.prog 66 #[.pointer (some ⟨g, 0, none⟩)] w fun e w' => e = .returned (nV (nmR b s).1) ∧ RD 79 w' g bv b (nmR b s).2 ∧ Kept (fun k => k = g) w w' := by
  have hBY := Lib.hid (rbyte_any g bv b s w h)
  have hlt := byteR_lt b s
  have hE : nmR b s = takeR b (byteR b s).1 (byteR b s).2 := rfl
  rw [hE]
  generalize (byteR b s).1 = n at *
  generalize (byteR b s).2 = s1 at *
  clear hE
  have hTK := Lib.hid (fun W hW => take_any g bv b n s1 W hW (by omega))
  generalize takeR b n s1 = r at *
  obtain ⟨l, s2⟩ := r
  go_enter Tryd.func66, Tryd.ntmps66
  go_wp2_with fail
  refine hBY.out.mono ?_
  rintro e w1 ⟨rfl, hR, hk⟩
  go_wp2_with fail
  refine (hTK.out _ hR).mono ?_
  rintro e w2 ⟨ov, rfl, hov, hR2, hk2, hne⟩
  have hcv : (convert 35 9 ov).run Tryd.prog w2 = .ok (nV l) w2 := hov.conv Tryd.underlying35 Tryd.underlying5 Tryd.underlying9
  go_wp2_with fail
  go_ret
  exact ⟨rfl, hR2, hk.trans hk2 (fun _ _ h => h)⟩

set_option maxHeartbeats 2000000 in
set_option maxRecDepth 100000 in
theorem refrbyte_any (g : Nat) (bv : Value) (b : List UInt8) (s : St) (w : World) (h : RD 84 w g bv b s) :
    Calls Tryd.prog 47 #[.pointer (some ⟨g, 0, none⟩)] w fun e w' => e = .returned (.int .i64 (byteR b s).1) ∧ RD 84 w' g bv b (byteR b s).2 ∧ Kept (fun k => k = g) w w' := by
  have hTK := Lib.hid (reftake_any g bv b 1 s w h (by omega))
  have hone := one_of (takeR_len b 1 s)
  have hE : (byteR b s).1 = ((takeR b 1 s).1.headD 0).toNat := rfl
  have hE2 : (byteR b s).2 = (takeR b 1 s).2 := rfl
  rw [hE, hE2]
  generalize (takeR b 1 s).1 = l1 at *
  generalize (takeR b 1 s).2 = s1 at *
  generalize hx : l1.headD 0 = x at *
  clear hx
  subst hone
  clear hE hE2
  have hxl := x.toNat_lt
  go_enter Tryd.func47, Tryd.ntmps47
  go_wp2_with fail
  refine hTK.out.mono ?_
  rintro e w1 ⟨ov, rfl, hov, hR, hk, hne⟩
  obtain ⟨vg, vo, vc, rfl, hc⟩ := hov.cell1 (i := 0) (x := x) rfl
  rw [Nat.add_zero] at hc
  have hl1 : ([x] : List UInt8).length = 1 := rfl
  rw [hl1] at *
  go_wp2_with fail
  go_ret
  exact ⟨rfl, hR, hk⟩

set_option maxHeartbeats 2000000 in
set_option maxRecDepth 100000 in
theorem refrname_any (g : Nat) (bv : Value) (b : List UInt8) (s : St) (w : World) (h : RD 84 w g bv b s) :
    Calls Tryd.prog 48 #[.pointer (some ⟨g, 0, none⟩)] w fun e w' => e = .returned (nV (nmR b s).1) ∧ RD 84 w' g bv b (nmR b s).2 ∧ Kept (fun k => k = g) w w' := by
  have hBY := Lib.hid (refrbyte_any g bv b s w h)
  have hlt := byteR_lt b s
  have hE : nmR b s = takeR b (byteR b s).1 (byteR b s).2 := rfl
  rw [hE]
  generalize (byteR b s).1 = n at *
  generalize (byteR b s).2 = s1 at *
  clear hE
  have hTK := Lib.hid (fun W hW => reftake_any g bv b n s1 W hW (by omega))
  generalize takeR b n s1 = r at *
  obtain ⟨l, s2⟩ := r
  go_enter Tryd.func48, Tryd.ntmps48
  go_wp2_with fail
  refine hBY.out.mono ?_
  rintro e w1 ⟨rfl, hR, hk⟩
  go_wp2_with fail
  refine (hTK.out _ hR).mono ?_
  rintro e w2 ⟨ov, rfl, hov, hR2, hk2, hne⟩
  have hcv : (convert 35 9 ov).run Tryd.prog w2 = .ok (nV l) w2 := hov.conv Tryd.underlying35 Tryd.underlying5 Tryd.underlying9
  go_wp2_with fail
  go_ret
  exact ⟨rfl, hR2, hk.trans hk2 (fun _ _ h => h)⟩

theorem RD.setBad {T : TypeId} {w : World} {g : Nat} {bv : Value} {b : List UInt8} {s : St} (h : RD T w g bv b s) (v : Bool) : RD T (w.setCell ⟨g, 2, none⟩ (.bool v)) g bv b (s.1, v) ∧ Kept (fun k => k = g) w (w.setCell ⟨g, 2, none⟩ (.bool v)) := by
  have hk : Kept (fun k => k = g) w (w.setCell ⟨g, 2, none⟩ (.bool v)) := (Kept.refl (fun k => k = g) w).setCell (fun _ => rfl) _
  exact ⟨⟨h.blk.set_ 2 (.bool v), h.by_.kept hk h.ne, h.ne, h.le, h.few⟩, hk⟩

set_option maxHeartbeats 2000000 in
set_option maxRecDepth 100000 in
theorem rnumber_any (g : Nat) (bv : Value) (b : List UInt8) (s : St) (most : Nat) (w : World) (h : RD 79 w g bv b s) (hm : most ≤ 2147483647) :
    Calls Tryd.prog 44 #[.pointer (some ⟨g, 0, none⟩), .int .i64 most] w fun e w' => e = .returned (.int .i64 (numR most b s).1) ∧ RD 79 w' g bv b (numR most b s).2 ∧ Kept (fun k => k = g) w w' := by
  have hTK := Lib.hid (take_any g bv b 4 s w h (by omega))
  have hl4 := takeR_len b 4 s
  unfold numR
  generalize takeR b 4 s = r at *
  obtain ⟨l, at1, bad1⟩ := r
  simp only at *
  have hlt := leN_lt l
  rw [hl4] at hlt
  have hUL := Lib.hid (fun v W hW => unlittle_any v l W hW hl4)
  generalize leN l = n at *
  have hn4 : (n : Int) < 4294967296 := by omega
  clear hlt hl4
  cases bad1 with
  | true =>
    rw [if_pos (.inl rfl)]
    go_enter Tryd.func44, Tryd.ntmps44
    go_wp2_with fail
    refine hTK.out.mono ?_
    rintro e w1 ⟨ov, rfl, hov, hR, hk, hne⟩
    go_wp2_with fail
    refine (hUL.out _ _ hov).mono ?_
    rintro e w2 ⟨rfl, rfl⟩
    obtain ⟨hR2, hk2⟩ := hR.setBad true
    have hb := hR.blk
    have c2 := hb.cell 2
    have f2 := hb.frozen 2
    clear hov
    go_wp2_with fail
    go_ret
    exact ⟨rfl, hR2, hk.trans hk2 (fun _ _ h => h)⟩
  | false =>
    by_cases hgt : most < n
    · rw [if_pos (.inr hgt)]
      have hgt2 : decide ((most : Int) < n) = true := decide_eq_true (by omega)
      go_enter Tryd.func44, Tryd.ntmps44
      go_wp2_with fail
      refine hTK.out.mono ?_
      rintro e w1 ⟨ov, rfl, hov, hR, hk, hne⟩
      go_wp2_with fail
      refine (hUL.out _ _ hov).mono ?_
      rintro e w2 ⟨rfl, rfl⟩
      obtain ⟨hR2, hk2⟩ := hR.setBad true
      have hb := hR.blk
      have c2 := hb.cell 2
      have f2 := hb.frozen 2
      clear hov
      go_wp2_with fail
      go_ret
      exact ⟨rfl, hR2, hk.trans hk2 (fun _ _ h => h)⟩
    · rw [if_neg (by simp; omega)]
      have hgt2 : decide ((most : Int) < n) = false := decide_eq_false (by omega)
      go_enter Tryd.func44, Tryd.ntmps44
      go_wp2_with fail
      refine hTK.out.mono ?_
      rintro e w1 ⟨ov, rfl, hov, hR, hk, hne⟩
      go_wp2_with fail
      refine (hUL.out _ _ hov).mono ?_
      rintro e w2 ⟨rfl, rfl⟩
      obtain ⟨hR2, hk2⟩ := hR.setBad false
      have hb := hR.blk
      have c2 := hb.cell 2
      have f2 := hb.frozen 2
      clear hov
      go_wp2_with fail
      go_ret
      exact ⟨rfl, hR2, hk.trans hk2 (fun _ _ h => h)⟩

theorem leN_drop {l : List UInt8} {j : Nat} {x : UInt8} (h : l[j]? = some x) : leN (l.drop j) = x.toNat + 256 * leN (l.drop (j + 1)) := by
  have hj := (List.getElem?_eq_some_iff.1 h).1
  rw [List.drop_eq_getElem_cons hj]
  have : l[j] = x := by rw [List.getElem?_eq_getElem hj] at h; exact Option.some.inj h
  rw [this]
  rfl

set_option maxHeartbeats 2000000 in
set_option maxRecDepth 100000 in
theorem rfour_any (g : Nat) (bv : Value) (b : List UInt8) (s : St) (w : World) (h : RD 84 w g bv b s) :
    Calls Tryd.prog 46 #[.pointer (some ⟨g, 0, none⟩)] w fun e w' => e = .returned (.int .i64 (numR 2147483647 b s).1) ∧ RD 84 w' g bv b (numR 2147483647 b s).2 ∧ Kept (fun k => k = g) w w' := by
  have hTK := Lib.hid (reftake_any g bv b 4 s w h (by omega))
  have hl4 := takeR_len b 4 s
  have hbz : (takeR b 4 s).2.2 = true → leN (takeR b 4 s).1 = 0 ∧ (takeR b 4 s).2 = ((takeR b 4 s).2.1, true) := by
    unfold takeR
    split
    · intro _; exact ⟨by simp only; decide, rfl⟩
    · intro h; cases h
  unfold numR
  generalize takeR b 4 s = r at *
  obtain ⟨l, at1, bad1⟩ := r
  simp only at *
  obtain ⟨res, hres⟩ : ∃ res : Nat × St, (if bad1 = true ∨ 2147483647 < leN l then (0, (at1, true)) else (leN l, (at1, bad1))) = res := ⟨_, rfl⟩
  rw [hres]
  have HRES := Lib.hid hres
  clear hres
  go_enter Tryd.func46, Tryd.ntmps46
  go_wp2_with fail
  refine hTK.out.mono ?_
  rintro e w1 ⟨ov, rfl, hov, hR, hk, hne⟩
  obtain ⟨A, c, rfl⟩ := hov.any
  have HBZ := Lib.hid hbz
  have HL4 := Lib.hid hl4
  rw [hl4] at hov ⊢
  clear hbz hl4
  go_wp2_with fail
  go_loopw [4, 5] (fun nv iv wr => ∃ j : Nat, iv = .int .i64 ((j : Int) - 1) ∧ nv = .int .i64 (leN (l.drop j) : Nat) ∧ j ≤ 4 ∧ w1 = wr) (fun _ iv _ => (intOf iv + 1).toNat)
  case atStart => exact ⟨4, rfl, by rw [List.drop_of_length_le (by rw [HL4.out]; omega)]; rfl, by omega, rfl⟩
  case round =>
    obtain ⟨j, rfl, rfl, hj, rfl⟩ := hrel
    by_cases h0 : 0 < j
    case pos =>
      obtain ⟨i, rfl⟩ : ∃ i, j = i + 1 := ⟨j - 1, by omega⟩
      have hl4 := HL4.out
      obtain ⟨x, hx⟩ : ∃ x, l[i]? = some x := ⟨_, List.getElem?_eq_getElem (by omega)⟩
      obtain ⟨vg, vo, c', hv, hc⟩ := hov.cell1 hx
      obtain ⟨rfl, -, rfl⟩ := Value.slice.inj hv
      have hd := leN_drop hx
      have hlo := leN_lt (l.drop (i + 1))
      have hlo2 : leN (l.drop (i + 1)) < 16777216 := by
        refine Nat.lt_of_lt_of_le hlo ?_
        rw [List.length_drop, hl4]
        exact Nat.le_trans (Nat.pow_le_pow_right (by omega) (show 4 - (i + 1) ≤ 3 by omega)) (by decide)
      have hxl := x.toNat_lt
      have HD := Lib.hid hd
      clear hd hlo hl4 hx hv
      generalize leN (l.drop (i + 1)) = n at *
      have hi1 : ((i + 1 : Nat) : Int) - 1 = i := by omega
      rw [hi1]
      clear hi1
      go_wp2_with fail
      exact ⟨⟨i, rfl, by rw [HD.out]; go_num, by omega, trivial⟩, by simp [intOf] <;> omega⟩
    case neg =>
      obtain rfl : j = 0 := by omega
      rw [List.drop_zero]
      have hlo := leN_lt l
      rw [HL4.out] at hlo
      have hz := HBZ.out
      have hb := hR.blk
      have c2 := hb.cell 2
      have f2 := hb.frozen 2
      by_cases hgt : 2147483647 < leN l
      · have hE : res = (0, (at1, true)) := by rw [← HRES.out, if_pos (.inr hgt)]
        have HE := Lib.hid hE
        obtain ⟨hR2, hk2⟩ := hR.setBad true
        clear hz HBZ hE HRES
        generalize leN l = n at *
        have hgt2 : decide ((2147483647 : Int) < n) = true := decide_eq_true (by omega)
        go_wp2_with fail
        go_ret
        exact ⟨by rw [HE.out]; rfl, by rw [HE.out]; exact hR2, hk.trans hk2 (fun _ _ h => h)⟩
      · have hE : res = (leN l, (at1, bad1)) := by
          rw [← HRES.out]
          by_cases hb1 : bad1 = true
          · obtain ⟨e1, e2⟩ := hz hb1
            rw [if_pos (.inl hb1), e1, e2]
          · rw [if_neg (by simp [hb1]; omega)]
        have HE := Lib.hid hE
        clear hz HBZ hE HRES
        generalize leN l = n at *
        have hgt2 : decide ((2147483647 : Int) < n) = false := decide_eq_false (by omega)
        go_wp2_with fail
        go_ret
        exact ⟨by rw [HE.out]; rfl, by rw [HE.out]; exact hR, hk⟩

end Go.Proofs.YtmgdjiplpfeoiaaDoor
set_option linter.unusedSimpArgs false
set_option linter.unusedVariables false
namespace Go.Proofs.YtmgdjiplpfeoiaaDoor
open Go.RowKit

/-! ### types that are read -/
structure Lim where
  size : Nat
  tgt : Nat
  count : Nat
  mem : Nat
  type : Nat
  bits : Nat
  types : Nat
  capM : Nat
  capT : Nat
def limB : Lim := ⟨65536, 256, 65536, 64, 256, 524288, 256, 64, 256⟩
def limR : Lim := ⟨2147483647, 2147483647, 2147483647, 2147483647, 2147483647, 2147483647, 2147483647, 65, 257⟩
def mbR (L : Lim) (b : List UInt8) (s : St) : Mb × St :=
  (⟨(nmR b s).1, (numR L.type b (nmR b s).2).1, (numR L.bits b (numR L.type b (nmR b s).2).2).1⟩, (numR L.bits b (numR L.type b (nmR b s).2).2).2)
def memsR (L : Lim) (b : List UInt8) : Nat → St → List Mb × St
  | 0, s => ([], s)
  | n + 1, s => if s.2 = true then ([], s) else ((mbR L b s).1 :: (memsR L b n (mbR L b s).2).1, (memsR L b n (mbR L b s).2).2)
def flagS (x : Nat × St) : St := (x.2.1, x.2.2 || decide (1 < x.1))
structure Hd where
  kind : Nat
  name : List UInt8
  size : Nat
  flag : Nat
  tgt : Nat
  count : Nat
  mem : Nat
def hdR (L : Lim) (b : List UInt8) (s : St) : Hd × St :=
  let k := byteR b s
  let nm := nmR b k.2
  let sz := numR L.size b nm.2
  let fl := byteR b sz.2
  let tt := numR L.tgt b (flagS fl)
  let ct := numR L.count b tt.2
  let m := numR L.mem b ct.2
  (⟨k.1, nm.1, sz.1, fl.1, tt.1, ct.1, m.1⟩, m.2)
def typR (L : Lim) (b : List UInt8) (s : St) : Ty × St :=
  let h := hdR L b s
  let ms := memsR L b (min h.1.mem L.capM) h.2
  (⟨h.1.kind, h.1.name, h.1.size, h.1.flag == 1, h.1.tgt, h.1.count, ms.1⟩, ms.2)
def typsR (L : Lim) (b : List UInt8) : Nat → St → List Ty × St
  | 0, s => ([], s)
  | n + 1, s => if s.2 = true then ([], s) else ((typR L b s).1 :: (typsR L b n (typR L b s).2).1, (typsR L b n (typR L b s).2).2)
def cntR (L : Lim) (b : List UInt8) : Nat × St := numR L.types b (0, false)
def rawR (L : Lim) (b : List UInt8) : List Ty × St := typsR L b (min (cntR L b).1 L.capT) (cntR L b).2

theorem mbR_name (L : Lim) (b : List UInt8) (s : St) : (mbR L b s).1.name.length < 256 := nmR_len b s
theorem memsR_len (L : Lim) (b : List UInt8) : ∀ n s, (memsR L b n s).1.length ≤ n
  | 0, s => by simp [memsR]
  | n + 1, s => by
    unfold memsR
    split
    · simp
    · simp only [List.length_cons]
      have := memsR_len L b n (mbR L b s).2
      omega
theorem typsR_len (L : Lim) (b : List UInt8) : ∀ n s, (typsR L b n s).1.length ≤ n
  | 0, s => by simp [typsR]
  | n + 1, s => by
    unfold typsR
    split
    · simp
    · simp only [List.length_cons]
      have := typsR_len L b n (typR L b s).2
      omega

/-! ### members that are being made -/
theorem infoMb : (Tryd.prog.info? 42).map (fun i => (i.zero, i.size, i.bytes)) = some (some (.agg #[nV [], .int .i64 0, .int .i64 0]), 3, 32) := by kernel_rfl
def MsL (w : World) (B : Nat) (v : Value) (ms : List Mb) : Prop := Sg w 42 3 v (ms.map mbCells) ∧ ∀ g, v.ownBlock = some g → B ≤ g
section
variable {w w' : World} {B : Nat} {v : Value} {ms : List Mb}
theorem MsL.nil (w : World) (B : Nat) : MsL w B (.slice none 0 0) [] := ⟨Sg.nil _ _ _, fun g hg => by simp [Value.ownBlock] at hg⟩
theorem MsL.kept {F : Nat → Prop} (h : MsL w B v ms) (hk : Kept F w w') (hF : ∀ g, v.ownBlock = some g → ¬ F g) : MsL w' B v ms := ⟨h.1.kept hk hF, h.2⟩
theorem MsL.any (h : MsL w B v ms) : ∃ A cap, v = .slice A ms.length cap := by
  obtain ⟨A, cap, rfl⟩ := h.1.any
  exact ⟨A, cap, by simp⟩
theorem MsL.mbs (h : MsL w B v ms) : Mbs w v ms := by
  rcases h.1.shape with ⟨rfl, hn⟩ | ⟨g, cap, rfl, hc, hg⟩
  · have : ms = [] := by simpa using hn
    subst this
    exact Mbs.nil w
  · refine ⟨some ⟨g, 0, none⟩, cap, by simp, fun i m hm => ⟨g, 0, rfl, hg, fun k u hu => ?_⟩⟩
    have hk : k < 3 := (List.getElem?_eq_some_iff.1 hu).1
    have := h.1.cell (i := i) (c := mbCells m) (by rw [List.getElem?_map, hm]; rfl) hk
    rw [Nat.zero_add, this]
    exact hu
theorem MsL.lt (h : MsL w B v ms) : ∀ g, v.ownBlock = some g → g < w.heap.size := by
  intro g hg
  rcases h.1.shape with ⟨rfl, hn⟩ | ⟨g', cap, rfl, hc, hg'⟩
  · simp [Value.ownBlock] at hg
  · simp only [Value.ownBlock, Option.some.injEq] at hg
    omega
end
section
variable {ops : Array Oper} {rest : List Oper} {o : Oper} {a : Act} {Q : Exit → Act → World → Prop}
/-- 'l = append(l, m)', behind the making of m's own row -/
theorem wpList_pushMb {w : World} (hgd : o.guard = none) (s x : Operand) (ho : o.op = .call { callee := .builtin .append, args := #[s, x], argTypes := #[36, 36] })
    (B : Nat) (v : Value) (ms : List Mb) (m : Mb) (cs : Array Value) (hcs : cs = (mbCells m).toArray) (hs : a.eval s = v) (hx : a.eval x = .slice (some ⟨w.heap.size, 0, none⟩) 1 1)
    (h : MsL w B v ms) (hlen : ms.length < 1073741824) (hB : B ≤ w.heap.size)
    (hK : ∀ v' w', MsL w' B v' (ms ++ [m]) → Kept (fun k => v.ownBlock = some k) w w' → (∀ g, v'.ownBlock = some g → v.ownBlock = some g ∨ w.heap.size ≤ g) → wpList Tryd.prog ops Q rest (a.put o.dst v') w') :
    wpList Tryd.prog ops Q (o :: rest) a (w.alloc (.cells cs 42)) := by
  subst hcs
  obtain ⟨i0, hI0, hI1, hI2, hI3⟩ := info_parts infoMb
  refine wpList_pushG (w := w) hgd s x 36 ho Tryd.underlying36 hI0 hI1 hI2 hI3 rfl (by omega) v (ms.map mbCells) (mbCells m) hs hx h.1 rfl (by simp [mbCells, Value.oneCell']) (by simpa using hlen) (by omega) ?_
  intro g cap w' hS hk hg
  have hown : ∀ g', (Value.slice (some ⟨g, 0, none⟩) ((ms.map mbCells).length + 1) cap).ownBlock = some g' → v.ownBlock = some g' ∨ w.heap.size ≤ g' := fun g' hg' => by
    simp only [Value.ownBlock, Option.some.injEq] at hg'
    subst hg'
    exact hg
  refine hK _ w' ⟨by simpa using hS, fun g' hg' => ?_⟩ hk hown
  rcases hown g' hg' with e | e
  · exact h.2 g' e
  · omega
end

end Go.Proofs.YtmgdjiplpfeoiaaDoor
set_option linter.unusedSimpArgs false
set_option linter.unusedVariables false
namespace Go.Proofs.YtmgdjiplpfeoiaaDoor
open Go.RowKit

theorem numR_fit {L : Nat} {b : List UInt8} {s : St} (h : L ≤ 2147483647) : (numR L b s).1 ≤ 2147483647 := Nat.le_trans (numR_le L b s) h
theorem naMems' : ∀ w, (isAgg 36).run Tryd.prog w = .ok false w := fun w => by kernel_rfl
/-- the state of 'typed' -/
structure TJ (w W : World) (g : Nat) (bv : Value) (b : List UInt8) (s : St) (T : Nat) (cs : Array Value) : Prop where
  rd : RD 79 W g bv b s
  z : Blk W w.heap.size 38 #[.int .i64 0, nV [], .int .i64 0, .bool false, .int .i64 0, .int .i64 0, .slice none 0 0]
  t : Blk W T 38 cs
  k : Kept (fun k => k = g) w W
  gz : ¬ w.heap.size = g
  gt : ¬ T = g
  lt : w.heap.size < T
  bt : ¬ bv.ownBlock = some T
theorem TJ.next {w W W' : World} {g T : Nat} {bv : Value} {b : List UInt8} {s s' : St} {cs : Array Value} (h : TJ w W g bv b s T cs) (hR : RD 79 W' g bv b s') (hk : Kept (fun k => k = g) W W') : TJ w W' g bv b s' T cs :=
  ⟨hR, hk.blk h.gz h.z, hk.blk h.gt h.t, h.k.trans hk (fun _ _ h => h), h.gz, h.gt, h.lt, h.bt⟩
theorem TJ.set_ {w W : World} {g T : Nat} {bv : Value} {b : List UInt8} {s : St} {cs : Array Value} (h : TJ w W g bv b s T cs) (i : Nat) (u : Value) : TJ w (W.setCell ⟨T, i, none⟩ u) g bv b s T (cs.setIfInBounds i u) := by
  have hk : Kept (fun k => k = T) W (W.setCell ⟨T, i, none⟩ u) := (Kept.refl (fun k => k = T) W).setCell (fun _ => rfl) _
  have hl := h.lt
  have hx := h.z.lt
  refine ⟨?_, hk.blk (by omega) h.z, h.t.set_ i u, ?_, h.gz, h.gt, h.lt, h.bt⟩
  · exact h.rd.kept hk (fun e => h.gt e.symm) (fun k hk2 e => h.bt (by rw [hk2, e]))
  · exact h.k.trans hk (fun k hkl e => by omega)

set_option maxHeartbeats 8000000 in
set_option maxRecDepth 100000 in
theorem typed_any (g : Nat) (bv : Value) (b : List UInt8) (s : St) (w : World) (h : RD 79 w g bv b s) :
    Calls Tryd.prog 45 #[.pointer (some ⟨g, 0, none⟩)] w fun e w' => ∃ mv, e = .returned (.agg (tyVals (typR limB b s).1 mv)) ∧ MsL w' w.heap.size mv (typR limB b s).1.mem ∧ RD 79 w' g bv b (typR limB b s).2 ∧ Kept (fun k => k = g) w w' := by
  have hgl := h.blk.lt
  obtain ⟨R, hR⟩ : ∃ R, typR limB b s = R := ⟨_, rfl⟩
  rw [hR]
  unfold typR hdR at hR
  simp only [limB] at hR
  -- the calls' words, one by one
  have hc1 := Lib.hid (fun W hW => rbyte_any g bv b s W hW)
  generalize byteR b s = r1 at *
  obtain ⟨k, s1⟩ := r1
  have hc2 := Lib.hid (fun W hW => rname_any g bv b s1 W hW)
  simp only at hR
  generalize nmR b s1 = r2 at *
  obtain ⟨nm, s2⟩ := r2
  have hc3 := Lib.hid (fun W hW => rnumber_any g bv b s2 65536 W hW (by omega))
  simp only at hR
  generalize numR 65536 b s2 = r3 at *
  obtain ⟨sz, s3⟩ := r3
  have hc4 := Lib.hid (fun W hW => rbyte_any g bv b s3 W hW)
  simp only at hR
  generalize byteR b s3 = r4 at *
  obtain ⟨fl, s4⟩ := r4
  have hF : flagS (fl, s4) = (s4.1, s4.2 || decide (1 < fl)) := rfl
  rw [hF] at hR
  have hc5 := Lib.hid (fun W hW => rnumber_any g bv b (s4.1, s4.2 || decide (1 < fl)) 256 W hW (by omega))
  generalize numR 256 b (s4.1, s4.2 || decide (1 < fl)) = r5 at *
  obtain ⟨tt, s5⟩ := r5
  have hc6 := Lib.hid (fun W hW => rnumber_any g bv b s5 65536 W hW (by omega))
  simp only at hR
  generalize numR 65536 b s5 = r6 at *
  obtain ⟨ct, s6⟩ := r6
  have hc7 := Lib.hid (fun W hW => rnumber_any g bv b s6 64 W hW (by omega))
  have hm64 := numR_le 64 b s6
  simp only at hR
  generalize numR 64 b s6 = r7 at *
  obtain ⟨M, s7⟩ := r7
  simp only at hR hm64
  rw [Nat.min_eq_left hm64] at hR
  have hLB : (⟨65536, 256, 65536, 64, 256, 524288, 256, 64, 256⟩ : Lim) = limB := rfl
  rw [hLB] at hR
  have HR := Lib.hid hR
  clear hR hF hLB
  go_enter Tryd.func45, Tryd.ntmps45
  have hZ := Blk.new w 38 #[.int .i64 0, nV [], .int .i64 0, .bool false, .int .i64 0, .int .i64 0, .slice none 0 0]
  have hR0 : RD 79 (w.alloc (.cells #[.int .i64 0, nV [], .int .i64 0, .bool false, .int .i64 0, .int .i64 0, .slice none 0 0] 38)) g bv b s := h.quiet ((Kept.refl _ w).alloc _)
  have hK0 : Kept (fun k => k = g) w (w.alloc (.cells #[.int .i64 0, nV [], .int .i64 0, .bool false, .int .i64 0, .int .i64 0, .slice none 0 0] 38)) := (Kept.refl _ w).alloc _
  have hgz : ¬ w.heap.size = g := by omega
  go_wp2_with fail
  refine (hc1.out _ hR0).mono ?_
  rintro e w1 ⟨rfl, hR1, hk1⟩
  have hZ1 := hk1.blk hgz hZ
  have hK1 := hK0.trans hk1 (fun _ _ h => h)
  go_wp2_with fail
  refine (hc2.out _ hR1).mono ?_
  rintro e w2 ⟨rfl, hR2, hk2⟩
  have hZ2 := hk2.blk hgz hZ1
  have hK2 := hK1.trans hk2 (fun _ _ h => h)
  go_wp2_with fail
  refine (hc3.out _ hR2).mono ?_
  rintro e w3 ⟨rfl, hR3, hk3⟩
  have hZ3 := hk3.blk hgz hZ2
  have hK3 := hK2.trans hk3 (fun _ _ h => h)
  have hA : Kept (fun _ => False) w3 (w3.alloc (.cells #[.int .i64 k, nV nm, .int .i64 sz, .bool false, .int .i64 0, .int .i64 0, .slice none 0 0] 38)) := (Kept.refl _ w3).alloc _
  have hT3 := Blk.new w3 38 #[.int .i64 k, nV nm, .int .i64 sz, .bool false, .int .i64 0, .int .i64 0, .slice none 0 0]
  have hR3a := hR3.quiet hA
  have hZ3a := hA.blk (fun h => h) hZ3
  have hK3a := hK3.trans hA (fun _ _ h => h.elim)
  have hs3 := hK3.size
  have hz3 := hZ3.lt
  obtain ⟨T, hT⟩ : ∃ T, w3.heap.size = T := ⟨_, rfl⟩
  rw [hT] at hT3 hs3 hz3
  have hgT : ¬ T = g := by omega
  have hbT : ¬ bv.ownBlock = some T := fun e => by have := h.by_.lt T e; omega
  have hJ3 : TJ w (w3.alloc (.cells #[.int .i64 k, nV nm, .int .i64 sz, .bool false, .int .i64 0, .int .i64 0, .slice none 0 0] 38)) g bv b s3 T #[.int .i64 k, nV nm, .int .i64 sz, .bool false, .int .i64 0, .int .i64 0, .slice none 0 0] := ⟨hR3a, hZ3a, hT3, hK3a, hgz, hgT, hz3, hbT⟩
  clear hk1 hk2 hk3 hZ1 hZ2 hZ3 hK1 hK2 hK3 hR0 hR1 hR2 hR3 hZ hK0 hA hR3a hZ3a hT3 hK3a hc1 hc2 hc3
  go_wp2_with fail
  refine (hc4.out _ hJ3.rd).mono ?_
  rintro e w4 ⟨rfl, hR4, hk4⟩
  have hJ4 := hJ3.next hR4 hk4
  clear hJ3 hR4 hk4
  have hb4 := hJ4.rd.blk
  have d2 := hb4.cell 2
  have f2 := hb4.frozen 2
  go_upto_region 3 with fail
  go_cut [4] (fun fv wx => fv = .int .i64 (fl : Nat) ∧ TJ w wx g bv b (s4.1, s4.2 || decide (1 < fl)) T #[.int .i64 k, nV nm, .int .i64 sz, .bool false, .int .i64 0, .int .i64 0, .slice none 0 0])
  case first =>
    as_aux_lemma =>
    obtain ⟨at4, bad4⟩ := s4
    simp only at d2
    have hfin : ∀ v : Bool, TJ w (w4.setCell ⟨g, 2, none⟩ (.bool v)) g bv b (at4, v) T #[.int .i64 k, nV nm, .int .i64 sz, .bool false, .int .i64 0, .int .i64 0, .slice none 0 0] := fun v => by
      obtain ⟨h1, h2⟩ := hJ4.rd.setBad v
      exact hJ4.next h1 h2
    have HF := Lib.hid hfin
    clear hfin
    cases bad4 with
    | true =>
      go_wp2_with fail
      go_meet
      exact ⟨rfl, HF.out true⟩
    | false =>
      by_cases h1 : 1 < fl
      · have h1d : decide ((1 : Int) < fl) = true := decide_eq_true (by omega)
        have h1e : decide (1 < fl) = true := decide_eq_true h1
        go_wp2_with fail
        go_meet
        rw [h1e]
        exact ⟨rfl, HF.out true⟩
      · have h1d : decide ((1 : Int) < fl) = false := decide_eq_false (by omega)
        have h1e : decide (1 < fl) = false := decide_eq_false h1
        go_wp2_with fail
        go_meet
        rw [h1e]
        exact ⟨rfl, HF.out false⟩
  case rest =>
  clear d2 f2 hb4 hJ4 hc4
  obtain ⟨rfl, hJ4⟩ := hcut
  go_wp2_with fail
  refine (hc5.out _ hJ4.rd).mono ?_
  rintro e w5 ⟨rfl, hR5, hk5⟩
  have hJ5 := hJ4.next hR5 hk5
  clear hR5 hk5 hJ4 hc5
  go_wp2_with fail
  refine (hc6.out _ hJ5.rd).mono ?_
  rintro e w6 ⟨rfl, hR6, hk6⟩
  have hJ6 := hJ5.next hR6 hk6
  clear hR6 hk6 hJ5 hc6
  have hJ6a := ((hJ6.set_ 3 (.bool ((fl : Int) == 1))).set_ 4 (.int .i64 (tt : Nat))).set_ 5 (.int .i64 (ct : Nat))
  have hb6 := hJ6.t
  have d3 := hb6.cell 3
  have d4 := hb6.cell 4
  have d5 := hb6.cell 5
  have f3 := hb6.frozen 3
  have f4 := hb6.frozen 4
  have f5 := hb6.frozen 5
  clear hb6
  go_wp2_with fail
  refine (hc7.out _ hJ6a.rd).mono ?_
  rintro e w7 ⟨rfl, hR7, hk7⟩
  have hJ7 : TJ w w7 g bv b s7 T #[.int .i64 k, nV nm, .int .i64 sz, .bool ((fl : Int) == 1), .int .i64 tt, .int .i64 ct, .slice none 0 0] := hJ6a.next hR7 hk7
  clear hR7 hk7 hJ6a hJ6 hc7 d3 d4 d5 f3 f4 f5
  go_wp2_with fail
  go_loopw [5] (fun nv wr => ∃ (m : Nat) (s' : St) (acc : List Mb) (mv : Value), nv = .int .i64 m ∧ acc.length + m ≤ 64 ∧ memsR limB b M s7 = (acc ++ (memsR limB b m s').1, (memsR limB b m s').2) ∧
    TJ w wr g bv b s' T #[.int .i64 k, nV nm, .int .i64 sz, .bool ((fl : Int) == 1), .int .i64 tt, .int .i64 ct, mv] ∧ MsL wr w.heap.size mv acc ∧ (¬ mv.ownBlock = some T) ∧ ¬ mv.ownBlock = some w.heap.size) (fun nv _ => (intOf nv).toNat)
  case atStart => exact ⟨M, s7, [], .slice none 0 0, rfl, by simpa using hm64, by simp, hJ7, MsL.nil _ _, by simp [Value.ownBlock], by simp [Value.ownBlock]⟩
  case round =>
    clear hJ7
    obtain ⟨m, s', acc, mv, rfl, hacc, hms, hJ, hM, hmT, hmw⟩ := hrel
    have hbg := hJ.rd.blk
    have q2 := hbg.cell 2
    by_cases hgo : 0 < m ∧ s'.2 = false
    case neg =>
      have hend : memsR limB b m s' = ([], s') := by
        cases m with
        | zero => rfl
        | succ m =>
          unfold memsR
          rw [if_pos (by
            cases e : s'.2
            · exact absurd ⟨Nat.succ_pos _, e⟩ hgo
            · rfl)]
      rw [hend] at hms
      have hRR : R = (⟨k, nm, sz, fl == 1, tt, ct, acc⟩, s') := by
        rw [← HR.out, hms]
        simp
      have HRR := Lib.hid hRR
      have hdec : 0 < m → s'.2 = true := fun h => by
        cases e : s'.2
        · exact absurd ⟨h, e⟩ hgo
        · rfl
      have hbt := hJ.t
      have hbz := hJ.z
      have t0 := hbt.cell 0
      have t1 := hbt.cell 1
      have t2 := hbt.cell 2
      have t3 := hbt.cell 3
      have t4 := hbt.cell 4
      have t5 := hbt.cell 5
      have t6 := hbt.cell 6
      clear hend hms hRR HR hgo
      obtain ⟨at', bad'⟩ := s'
      simp only at hdec q2
      have hz0 := hbz.cell 0
      have hz1 := hbz.cell 1
      have hz2 := hbz.cell 2
      have hz3 := hbz.cell 3
      have hz4 := hbz.cell 4
      have hz5 := hbz.cell 5
      have hz6 := hbz.cell 6
      have fz0 := hbz.frozen 0
      have fz1 := hbz.frozen 1
      have fz2 := hbz.frozen 2
      have fz3 := hbz.frozen 3
      have fz4 := hbz.frozen 4
      have fz5 := hbz.frozen 5
      have fz6 := hbz.frozen 6
      clear hbt hbz
      obtain ⟨mA, mc, rfl⟩ := hM.any
      have hkf : Kept (fun k => k = w.heap.size) wr (((((((wr.setCell ⟨w.heap.size, 0, none⟩ (.int .i64 k)).setCell ⟨w.heap.size, 1, none⟩ (nV nm)).setCell ⟨w.heap.size, 2, none⟩ (.int .i64 sz)).setCell ⟨w.heap.size, 3, none⟩ (.bool ((fl : Int) == 1))).setCell ⟨w.heap.size, 4, none⟩ (.int .i64 tt)).setCell ⟨w.heap.size, 5, none⟩ (.int .i64 ct)).setCell ⟨w.heap.size, 6, none⟩ (.slice mA acc.length mc)) := ((((((((Kept.refl (fun k => k = w.heap.size) wr).setCell (fun _ => rfl) _).setCell (fun _ => rfl) _).setCell (fun _ => rfl) _).setCell (fun _ => rfl) _).setCell (fun _ => rfl) _).setCell (fun _ => rfl) _).setCell (fun _ => rfl) _)
      have hfin : MsL (((((((wr.setCell ⟨w.heap.size, 0, none⟩ (.int .i64 k)).setCell ⟨w.heap.size, 1, none⟩ (nV nm)).setCell ⟨w.heap.size, 2, none⟩ (.int .i64 sz)).setCell ⟨w.heap.size, 3, none⟩ (.bool ((fl : Int) == 1))).setCell ⟨w.heap.size, 4, none⟩ (.int .i64 tt)).setCell ⟨w.heap.size, 5, none⟩ (.int .i64 ct)).setCell ⟨w.heap.size, 6, none⟩ (.slice mA acc.length mc)) w.heap.size (.slice mA acc.length mc) acc ∧ RD 79 (((((((wr.setCell ⟨w.heap.size, 0, none⟩ (.int .i64 k)).setCell ⟨w.heap.size, 1, none⟩ (nV nm)).setCell ⟨w.heap.size, 2, none⟩ (.int .i64 sz)).setCell ⟨w.heap.size, 3, none⟩ (.bool ((fl : Int) == 1))).setCell ⟨w.heap.size, 4, none⟩ (.int .i64 tt)).setCell ⟨w.heap.size, 5, none⟩ (.int .i64 ct)).setCell ⟨w.heap.size, 6, none⟩ (.slice mA acc.length mc)) g bv b (at', bad') ∧ Kept (fun k => k = g) w (((((((wr.setCell ⟨w.heap.size, 0, none⟩ (.int .i64 k)).setCell ⟨w.heap.size, 1, none⟩ (nV nm)).setCell ⟨w.heap.size, 2, none⟩ (.int .i64 sz)).setCell ⟨w.heap.size, 3, none⟩ (.bool ((fl : Int) == 1))).setCell ⟨w.heap.size, 4, none⟩ (.int .i64 tt)).setCell ⟨w.heap.size, 5, none⟩ (.int .i64 ct)).setCell ⟨w.heap.size, 6, none⟩ (.slice mA acc.length mc)) := by
        refine ⟨hM.kept hkf (fun k hk e => hmw (by rw [hk, e])), hJ.rd.kept hkf (fun e => hgz e.symm) (fun k hk e => ?_), hJ.k.trans hkf (fun k hkl e => by omega)⟩
        have := h.by_.lt k hk
        omega
      have HFIN := Lib.hid hfin
      have hblf : Blk (((((((wr.setCell ⟨w.heap.size, 0, none⟩ (.int .i64 k)).setCell ⟨w.heap.size, 1, none⟩ (nV nm)).setCell ⟨w.heap.size, 2, none⟩ (.int .i64 sz)).setCell ⟨w.heap.size, 3, none⟩ (.bool ((fl : Int) == 1))).setCell ⟨w.heap.size, 4, none⟩ (.int .i64 tt)).setCell ⟨w.heap.size, 5, none⟩ (.int .i64 ct)).setCell ⟨w.heap.size, 6, none⟩ (.slice mA acc.length mc)) w.heap.size 38 #[.int .i64 k, nV nm, .int .i64 sz, .bool ((fl : Int) == 1), .int .i64 tt, .int .i64 ct, .slice mA acc.length mc] := (((((((hJ.z.set_ 0 (.int .i64 k)).set_ 1 (nV nm)).set_ 2 (.int .i64 sz)).set_ 3 (.bool ((fl : Int) == 1))).set_ 4 (.int .i64 tt)).set_ 5 (.int .i64 ct)).set_ 6 (.slice mA acc.length mc))
      have HBL := Lib.hid hblf
      have hfl1 : ((fl : Int) == 1) = (fl == 1) := by
        rw [Bool.eq_iff_iff]
        simp
        omega
      have HFL := Lib.hid hfl1
      clear hfin hkf hfl1 hblf
      rcases Nat.eq_zero_or_pos m with hm0 | hm0
      · subst hm0
        clear hdec
        go_wp2_with fail
        (try simp only [Exit.inBlock, Exit.then])
        refine bodyPost_ret (results_cell_row rfl _ _ w.heap.size 38 #[.int .i64 k, nV nm, .int .i64 sz, .bool ((fl : Int) == 1), .int .i64 tt, .int .i64 ct, .slice mA acc.length mc] (0, 0) _ rfl HBL.out Tryd.underlying38 rfl (by kernel_rfl)) rfl ?_
        rw [HRR.out]
        simp only
        rw [← HFL.out]
        exact ⟨_, rfl, HFIN.out⟩
      · obtain rfl : bad' = true := hdec hm0
        go_wp2_with fail
        (try simp only [Exit.inBlock, Exit.then])
        refine bodyPost_ret (results_cell_row rfl _ _ w.heap.size 38 #[.int .i64 k, nV nm, .int .i64 sz, .bool ((fl : Int) == 1), .int .i64 tt, .int .i64 ct, .slice mA acc.length mc] (0, 0) _ rfl HBL.out Tryd.underlying38 rfl (by kernel_rfl)) rfl ?_
        rw [HRR.out]
        simp only
        rw [← HFL.out]
        exact ⟨_, rfl, HFIN.out⟩
    case pos =>
      obtain ⟨m, rfl⟩ : ∃ m', m = m' + 1 := ⟨m - 1, by omega⟩
      obtain ⟨at', bad'⟩ := s'
      obtain rfl : bad' = false := hgo.2
      obtain ⟨mA, mc, rfl⟩ := hM.any
      have hnx : memsR limB b (m + 1) (at', false) = ((mbR limB b (at', false)).1 :: (memsR limB b m (mbR limB b (at', false)).2).1, (memsR limB b m (mbR limB b (at', false)).2).2) := by
        rw [memsR]
        simp
      rw [hnx] at hms
      have hmb : mbR limB b (at', false) = (⟨(nmR b (at', false)).1, (numR 256 b (nmR b (at', false)).2).1, (numR 524288 b (numR 256 b (nmR b (at', false)).2).2).1⟩, (numR 524288 b (numR 256 b (nmR b (at', false)).2).2).2) := rfl
      clear hnx hgo HR
      have e1 := Lib.hid (fun W hW => rname_any g bv b (at', false) W hW)
      generalize nmR b (at', false) = x1 at *
      obtain ⟨nm', s1'⟩ := x1
      have e2 := Lib.hid (fun W hW => rnumber_any g bv b s1' 256 W hW (by omega))
      simp only at hmb
      generalize numR 256 b s1' = x2 at *
      obtain ⟨ty', s2'⟩ := x2
      have e3 := Lib.hid (fun W hW => rnumber_any g bv b s2' 524288 W hW (by omega))
      simp only at hmb
      generalize numR 524288 b s2' = x3 at *
      obtain ⟨bi', s3'⟩ := x3
      simp only at hmb e1 e2 e3
      rw [hmb] at hms
      simp only at hms
      have hms2 : memsR limB b M s7 = ((acc ++ [⟨nm', ty', bi'⟩]) ++ (memsR limB b m s3').1, (memsR limB b m s3').2) := by rw [hms]; simp
      have HMS := Lib.hid hms2
      clear hms hms2 hmb
      simp only at q2
      have hC0 : wr.drew.cell? ⟨T, 6, none⟩ = some (.slice mA acc.length mc) := hJ.t.cell 6
      go_wp2_with fail
      refine wp_region_mix [.w, .l, .w, .k, .w, .k, .w, .k, .w, .k, .t, .w, .t] (by kernel_rfl) (by kernel_rfl) (fun w' => w'.cell? ⟨T, 6, none⟩ = some (.slice mA acc.length mc)) ?_
      repeat (refine mix_w1 ?_; go_big_quiet_step (fail); refine wpQuiet_nil ?_)
      refine mix_load1 hC0 rfl 36 (.tmp 48) rfl naMems' ⟨T, 6, none⟩ _ rfl (fun _ h => h) ?_
      try simp only [Act.put, List.setIfInBounds_toArray, List.set_cons_succ, List.set_cons_zero]
      repeat (refine mix_w1 ?_; go_big_quiet_step (fail); refine wpQuiet_nil ?_)
      have hJd : TJ w wr.drew g bv b (at', false) T #[.int .i64 k, nV nm, .int .i64 sz, .bool ((fl : Int) == 1), .int .i64 tt, .int .i64 ct, .slice mA acc.length mc] := ⟨⟨hJ.rd.blk, hJ.rd.by_.drew, hJ.rd.ne, hJ.rd.le, hJ.rd.few⟩, hJ.z, hJ.t, hJ.k.drew, hJ.gz, hJ.gt, hJ.lt, hJ.bt⟩
      have hMd : MsL wr.drew w.heap.size (.slice mA acc.length mc) acc := hM.kept ((Kept.refl (fun _ => False) wr).drew) (fun _ _ h => h)
      have hMne : ∀ k, (Value.slice mA acc.length mc).ownBlock = some k → k ≠ g := fun k hk => by
        have := hM.2 k hk
        omega
      refine mix_k hC0 fun Q' hQ' => ?_
      go_wp2_with fail
      refine (e1.out _ hJd.rd).mono ?_
      rintro e wn1 ⟨rfl, hR1, hk1⟩
      have hJ1 := hJd.next hR1 hk1
      have hM1 := hMd.kept hk1 hMne
      have hC1 : wn1.cell? ⟨T, 6, none⟩ = some (.slice mA acc.length mc) := hJ1.t.cell 6
      go_wp2_with fail
      refine hQ' _ _ hC1 ?_
      clear hQ' Q'
      try simp only [Act.put, List.setIfInBounds_toArray, List.set_cons_succ, List.set_cons_zero]
      repeat (refine mix_w1 ?_; go_big_quiet_step (fail); refine wpQuiet_nil ?_)
      refine mix_k hC1 fun Q' hQ' => ?_
      go_wp2_with fail
      refine (e2.out _ hJ1.rd).mono ?_
      rintro e wn2 ⟨rfl, hR2, hk2⟩
      have hJ2 := hJ1.next hR2 hk2
      have hM2 := hM1.kept hk2 hMne
      have hC2 : wn2.cell? ⟨T, 6, none⟩ = some (.slice mA acc.length mc) := hJ2.t.cell 6
      go_wp2_with fail
      refine hQ' _ _ hC2 ?_
      clear hQ' Q'
      try simp only [Act.put, List.setIfInBounds_toArray, List.set_cons_succ, List.set_cons_zero]
      repeat (refine mix_w1 ?_; go_big_quiet_step (fail); refine wpQuiet_nil ?_)
      refine mix_k hC2 fun Q' hQ' => ?_
      go_wp2_with fail
      refine (e3.out _ hJ2.rd).mono ?_
      rintro e wn3 ⟨rfl, hR3, hk3⟩
      have hJ3 := hJ2.next hR3 hk3
      have hM3 := hM2.kept hk3 hMne
      have hC3 : wn3.cell? ⟨T, 6, none⟩ = some (.slice mA acc.length mc) := hJ3.t.cell 6
      go_wp2_with fail
      refine hQ' _ _ hC3 ?_
      clear hQ' Q'
      try simp only [Act.put, List.setIfInBounds_toArray, List.set_cons_succ, List.set_cons_zero]
      repeat (refine mix_w1 ?_; go_big_quiet_step (fail); refine wpQuiet_nil ?_)
      refine mix_k hC3 fun Q' hQ' => ?_
      go_wp2_with fail
      have hC4 : (wn3.alloc (.cells #[nV nm', .int .i64 ty', .int .i64 bi'] 42)).cell? ⟨T, 6, none⟩ = some (.slice mA acc.length mc) := (hJ3.t.alloc _).cell 6
      refine hQ' _ _ hC4 ?_
      clear hQ' Q'
      try simp only [Act.put, List.setIfInBounds_toArray, List.set_cons_succ, List.set_cons_zero]
      refine mix_t fun Q' hQ' => ?_
      refine wpList_pushMb (w := wn3) rfl (.tmp 49) (.tmp 57) rfl w.heap.size _ acc ⟨nm', ty', bi'⟩ _ (by rfl) rfl rfl hM3 (by omega) hJ3.k.size ?_
      intro v5 w5 hM5 hk5 hw5
      have hne5 : ∀ B, B < wn3.heap.size → (¬ (Value.slice mA acc.length mc).ownBlock = some B) → ¬ v5.ownBlock = some B := fun B hB hn e => by
        rcases hw5 B e with e | e
        · exact hn e
        · omega
      have hJ5 : TJ w w5 g bv b s3' T #[.int .i64 k, nV nm, .int .i64 sz, .bool ((fl : Int) == 1), .int .i64 tt, .int .i64 ct, .slice mA acc.length mc] :=
        ⟨hJ3.rd.kept hk5 (fun e => hMne _ e rfl) (fun k hk e => by have h1 := hM3.2 k e; have h2 := h.by_.lt k hk; omega), hk5.blk hmw hJ3.z, hk5.blk hmT hJ3.t, hJ3.k.trans hk5 (fun k hkl e => by have := hM3.2 k e; omega), hJ3.gz, hJ3.gt, hJ3.lt, hJ3.bt⟩
      have hT5 := hne5 T hJ3.t.lt hmT
      have hw5' := hne5 w.heap.size hJ3.z.lt hmw
      refine hQ' _ _ ?_
      clear hQ' Q'
      try simp only [Act.put, List.setIfInBounds_toArray, List.set_cons_succ, List.set_cons_zero]
      repeat (refine mix_w1 ?_; go_big_quiet_step (fail); refine wpQuiet_nil ?_)
      have hJ6 := hJ5.set_ 6 v5
      have hM6 := hM5.kept ((Kept.refl (fun k => k = T) w5).setCell (p := ⟨T, 6, none⟩) (fun _ => rfl) v5) (fun k hk e => hT5 (by rw [hk, e]))
      have hb5 := hJ5.t
      have z6 := hb5.cell 6
      have y6 := hb5.frozen 6
      obtain ⟨nA, nc, rfl⟩ := hM5.any
      have hln : (acc ++ [(⟨nm', ty', bi'⟩ : Mb)]).length = acc.length + 1 := by simp
      rw [hln] at hJ6 hM6 hT5 hw5' ⊢
      have hacc2 : (acc ++ [(⟨nm', ty', bi'⟩ : Mb)]).length + m ≤ 64 := by rw [hln]; omega
      clear hln
      refine mix_t fun Q' hQ' => ?_
      go_wp2_with fail
      refine mix_done ?_
      go_wp2_with fail
      exact ⟨⟨m, s3', _, _, by go_num, hacc2, HMS.out, hJ6, hM6, hT5, hw5'⟩, by simp [intOf]⟩

end Go.Proofs.YtmgdjiplpfeoiaaDoor
