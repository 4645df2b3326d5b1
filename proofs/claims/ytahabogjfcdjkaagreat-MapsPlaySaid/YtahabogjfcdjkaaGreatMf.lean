import Derived.Test.YtahabogjfcdjkaaGreatMr
set_option linter.unusedSimpArgs false
set_option linter.unusedVariables false
namespace Go.Proofs.YtahabogjfcdjkaaGreat
open Go.RowKit

/-- the lowest bytes of a number, the lowest first -/
def leB (n : Nat) : Nat → List UInt8
  | 0 => []
  | k + 1 => UInt8.ofNat n :: leB (n / 256) k
theorem leB_len (n k : Nat) : (leB n k).length = k := by
  induction k generalizing n with
  | zero => rfl
  | succ k ih => simp [leB, ih]
theorem leB_snoc : ∀ (k n : Nat), leB n (k + 1) = leB n k ++ [UInt8.ofNat (n / 256 ^ k)]
  | 0, n => by simp [leB]
  | k + 1, n => by
    have ih := leB_snoc k (n / 256)
    rw [leB, ih, leB, List.cons_append]
    rw [Nat.div_div_eq_div_mul, Nat.pow_succ, Nat.mul_comm 256]

theorem headU8 (g n cap i : Nat) (hi : i ≤ cap) (w : World) : (Instr.sliceAt 39 (.slice (some ⟨g, 0, none⟩) n cap) none (some (.int .i64 i)) none).run Tryz.prog w = .ok (.slice (some ⟨g, 0, none⟩) i cap) w := by
  obtain ⟨i0, hI0, hI1, hI2, hI3⟩ := info_parts infoU8
  simp [Instr.sliceAt, Instr.slice, run_underlying Tryz.underlying39, Instr.sliceBounds, run_sliceBound, sizeOf, typeInfo, hI0, hi, add_n]
theorem zeroU8 : ∀ w, (zeroValue 5).run Tryz.prog w = .ok (.int .u8 0) w := fun w => by kernel_rfl

theorem shr_cell (n i : Nat) : ((n : Int) / 2 ^ (8 * i) % 256) = (((UInt8.ofNat (n / 256 ^ i)).toNat : Nat) : Int) := by
  have e : (256 : Nat) ^ i = 2 ^ (8 * i) := by rw [Nat.pow_mul]
  have e2 : ((2 : Int) ^ (8 * i)) = ((2 ^ (8 * i) : Nat) : Int) := by simp
  rw [e, e2, UInt8.toNat_ofNat']
  rfl

set_option maxHeartbeats 1000000 in
set_option maxRecDepth 100000 in
theorem little_any (n size : Nat) (w : World) (hn : (n : Int) < 18446744073709551616) (hs : size ≤ 8) :
    Calls Tryz.prog 20 #[.slice none 0 0, .int .u64 n, .int .i64 size] w fun e w' => ∃ ov, e = .returned ov ∧ Bs w' ov (leB n size) ∧ (∀ g, ov.ownBlock = some g → w.heap.size ≤ g) ∧ Kept (fun _ => False) w w' := by
  obtain ⟨i0, hI0, hI1, hI2, hI3⟩ := info_parts infoU8
  clear hn
  go_enter Tryz.func20, Tryz.ntmps20
  go_wp2_with fail
  go_loopw [0, 9] (fun bv iv wr => ∃ i : Nat, iv = .int .i64 i ∧ i ≤ size ∧ Bs wr bv (leB n i) ∧ (∀ g, bv.ownBlock = some g → w.heap.size ≤ g) ∧ Kept (fun _ => False) w wr) (fun _ iv _ => size - (intOf iv).toNat)
  case atStart => exact ⟨0, rfl, Nat.zero_le _, Sl.nil _ _ _, by simp [Value.ownBlock], Kept.refl _ w⟩
  case round =>
    obtain ⟨i, rfl, hi, hB, hBb, hK⟩ := hrel
    by_cases hlt : i < size
    case neg =>
      obtain rfl : i = size := by omega
      go_wp2_with fail
      go_ret
      exact ⟨_, rfl, hB, hBb, hK⟩
    case pos =>
      have hln : ((leB n i).map bcell).length = i := by simp [leB_len]
      have HLN := Lib.hid hln
      clear hln
      have hcell := shr_cell n i
      have HCELL := Lib.hid hcell
      clear hcell
      go_wp2_with (at_builtin; refine wpList_push (w := wr) rfl (.tmp 12) (.tmp 18) 39 rfl Tryz.underlying39 hI0 hI1 hI2 hI3 rfl (by omega) u0 ((leB n i).map bcell) [.int .u8 ((n : Int) / 2 ^ (8 * i) % 256)] rfl rfl hB rfl (by simp [Value.oneCell']) (by rw [HLN.out]; omega) (by omega) ?_; intro g5 cap5 w5 hS5 hk5 hg5; rw [HLN.out] at hS5; rw [HLN.out])
      have hS6 : Bs w5 (.slice (some ⟨g5, 0, none⟩) (i + 1) cap5) (leB n (i + 1)) := by
        rw [leB_snoc]
        show Sl _ _ _ _ ((leB n i ++ _).map bcell)
        rw [List.map_append]
        rw [HCELL.out] at hS5
        exact hS5
      have hKs := hK.size
      have hob : ∀ g, (Value.slice (some ⟨g5, 0, none⟩) (i + 1) cap5).ownBlock = some g → w.heap.size ≤ g := fun g hg => by
        simp only [Value.ownBlock, Option.some.injEq] at hg
        subst hg
        rcases hg5 with e | e
        · exact hBb _ e
        · omega
      have hK5 : Kept (fun _ => False) w w5 := hK.trans hk5 (fun k hk e => by have := hBb k e; omega)
      go_roundw
      case rel => exact ⟨i + 1, by go_num, by omega, hS6, hob, hK5⟩
      case measure => simp [intOf]; omega

def hidN (t : Bool) : Nat := if t then 16 else 0

set_option maxHeartbeats 1000000 in
set_option maxRecDepth 100000 in
theorem fresh_any (x : Loc) (S : MS) (L : List Rg) (bv : Value) (l : List UInt8) (w : World) (h : Mp w x S L) (hb : By w bv l) (hl : l.length ≤ 1000000) (hh : hidN S.d.timer ≤ l.length) (hpos : 0 < l.length) (hs : L.length < 100000) :
    Calls Tryz.prog 19 #[.pointer (some ⟨x.q, 0, none⟩), bv] w fun e w' => e = .returned (.int .i64 ((L.length : Int) + 1)) ∧ ∃ v' g cv,
      Mp w' { x with v := v' } S (L ++ [⟨g, cv, List.replicate (hidN S.d.timer) 0 ++ l.drop (hidN S.d.timer), true, (hidN S.d.timer : Nat), false⟩]) ∧ (∀ k, fpMp { x with v := v' } (L ++ [⟨g, cv, List.replicate (hidN S.d.timer) 0 ++ l.drop (hidN S.d.timer), true, (hidN S.d.timer : Nat), false⟩]) k → fpMp x L k ∨ w.heap.size ≤ k) ∧ Kept (fun k => k ∈ blM x.mp x.v L) w w' := by
  have hb0 := h.blk.cell
  simp only [MS.cells] at hb0
  go_enter Tryz.func19, Tryz.ntmps19
  go_wp2_with fail
  refine (clone_any bv l w hb (by omega)).mono ?_
  rintro e w1 ⟨cv, rfl, hO1, hOb1, hk1⟩
  have h1 := h.quiet hk1
  obtain ⟨g, cap, hcv, hcap, hg⟩ := hO1.some_ (by simpa using hpos)
  simp only [List.length_map] at hcap hcv
  subst hcv
  go_wp2_with fail
  refine (hidden_any x S L w1 h1).mono ?_
  rintro e w2 ⟨rfl, rfl⟩
  have hhn : (if S.d.timer = true then (16 : Int) else 0) = ((hidN S.d.timer : Nat) : Int) := by unfold hidN; split <;> rfl
  rw [hhn]
  generalize hq : hidN S.d.timer = hn at *
  have HQ := Lib.hid hq
  have HHN := Lib.hid hhn
  clear hhn hq
  have hsl := headU8 g l.length cap hn (by omega)
  have hxv : (∃ A c, Value.slice (some ⟨g, 0, none⟩) hn cap = .slice A hn c) ∧ (0 < hn → ∃ g' cap', Value.slice (some ⟨g, 0, none⟩) l.length cap = .slice (some ⟨g', 0, none⟩) l.length cap' ∧ ∃ c, Value.slice (some ⟨g, 0, none⟩) hn cap = .slice (some ⟨g', 0, none⟩) hn c) :=
    ⟨⟨_, _, rfl⟩, fun _ => ⟨g, cap, rfl, cap, rfl⟩⟩
  have HXV := Lib.hid hxv
  clear hxv
  go_wp2_with (refine wpList_clearBs (w := w1) rfl (.tmp 11) 39 rfl Tryz.underlying39 zeroU8 (.slice (some ⟨g, 0, none⟩) l.length cap) l hn _ rfl hO1 hh HXV.out ?_; intro w2 hO2 hk2)
  have hg0 : w.heap.size ≤ g := hOb1 g rfl
  have hk02 : Kept (fun _ => False) w w2 := hk1.trans hk2 (fun k hk e => by
    simp only [Value.ownBlock, Option.some.injEq] at e
    omega)
  have h2 := h.quiet hk02
  have hb2 := h2.blk.cell
  simp only [MS.cells] at hb2
  have hs0 := hk02.size
  clear hb0 HXV hsl
  simp only [Act.put]
  refine wp_region_mix0 [.w, .w, .w, .l, .w, .w, .k, .t, .w] (by kernel_rfl) (by kernel_rfl) ?_
  repeat (first
    | (refine mix_w1 ?_; go_big_quiet_step (fail); refine wpQuiet_nil ?_)
    | (refine mix_l1 rfl ?_; go_big_quiet_step (fail); refine wpQuiet_nil ?_))
  refine mix_k rfl fun Q' hQ' => ?_
  go_wp2_with fail
  refine (hidden_any x S L _ h2.drew).mono ?_
  rintro e w3 ⟨rfl, rfl⟩
  rw [HHN.out]
  go_wp2_with fail
  refine hQ' _ _ rfl ?_
  clear hQ' Q'
  have hO2b : By w2.drew (.slice (some ⟨g, 0, none⟩) l.length cap) (List.replicate hn 0 ++ l.drop hn) := hO2.by_.drew
  have hl2 : (List.replicate hn (0 : UInt8) ++ l.drop hn).length = l.length := by simp; omega
  refine mix_t fun Q' hQ' => ?_
  go_wp2_with fail
  refine (add_any x.mp x.v L _ (List.replicate hn 0 ++ l.drop hn) true hn _ h2.mem.drew hO2b (by rw [hl2]; exact hl) hs).mono ?_
  rintro e w4 ⟨rfl, v4, g4, cv4, hM4, hB4, hk4⟩
  have hhid : hidOf hn (List.replicate hn (0 : UInt8) ++ l.drop hn).length = (hn : Int) := by
    rw [hl2]
    unfold hidOf
    have e : (if (hn : Int) < 0 then 0 else (hn : Int)) = hn := if_neg (by omega)
    rw [e, if_neg (by omega)]
  rw [hhid] at hM4 hB4
  have h4 := h2.drew.memory hk4 hM4 hB4 (fun i r hi => ⟨r, by rw [List.getElem?_append_left (List.getElem?_eq_some_iff.1 hi).1]; exact hi, rfl⟩)
  have hkf : Kept (fun k => k ∈ blM x.mp x.v L) w w4 := Kept.trans (hk02.mono (fun k _ e => e.elim)).drew hk4 (fun k _ e => e)
  clear hhid hl2
  go_wp2_with fail
  repeat (refine mix_w1 ?_; go_big_quiet_step (fail); refine wpQuiet_nil ?_)
  refine mix_nil ?_
  go_wp2_with fail
  go_ret
  rw [HQ.out]
  refine ⟨rfl, v4, g4, cv4, h4, fun k hk => ?_, hkf⟩
  rcases hk with e | e | e | e
  · exact .inl (.inl e)
  · exact .inl (.inr (.inl e))
  · exact .inl (.inr (.inr (.inl e)))
  · rcases hB4 k e with e | e
    · exact .inl (.inr (.inr (.inr e)))
    · exact .inr (Nat.le_trans hs0 e)

end Go.Proofs.YtahabogjfcdjkaaGreat
