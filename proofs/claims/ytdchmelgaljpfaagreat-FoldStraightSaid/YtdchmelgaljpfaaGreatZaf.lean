import Derived.Test.YtdchmelgaljpfaaGreatZae
import Derived.Test.YtdchmelgaljpfaaGreatKz
import Derived.Test.YtdchmelgaljpfaaGreatMh
set_option linter.unusedSimpArgs false
set_option linter.unusedVariables false
namespace Go.Proofs.YtdchmelgaljpfaaGreat
open Go.RowKit

/-! ### 'rD = N ll', 'rD = map N', 'rD = func O', 'rD = le16 rD' -/
def low32 (n : Nat) : Int := wrap32 ((n % 4294967296 : Nat) : Int)
def high32 (n : Nat) : Int := wrap32 ((n / 4294967296 : Nat) : Int)
def zeroI : In := ⟨0, 0, 0, 0, 0⟩
def nmS (i : Nat) : List UInt8 := match i with
  | 0 => [108, 101]
  | 1 => [98, 101]
  | 2 => [115, 119, 97, 112]
  | _ => []
def swS (s : List UInt8) (d : Int) : Option (List In) := if (s == [108, 101, 49, 54]) = true then some [⟨212, d, 0, 0, 16⟩] else if (s == [108, 101, 51, 50]) = true then some [⟨212, d, 0, 0, 32⟩] else if (s == [108, 101, 54, 52]) = true then some [⟨212, d, 0, 0, 64⟩]
  else if (s == [98, 101, 49, 54]) = true then some [⟨220, d, 0, 0, 16⟩] else if (s == [98, 101, 51, 50]) = true then some [⟨220, d, 0, 0, 32⟩] else if (s == [98, 101, 54, 52]) = true then some [⟨220, d, 0, 0, 64⟩]
  else if (s == [115, 119, 97, 112, 49, 54]) = true then some [⟨215, d, 0, 0, 16⟩] else if (s == [115, 119, 97, 112, 51, 50]) = true then some [⟨215, d, 0, 0, 32⟩] else if (s == [115, 119, 97, 112, 54, 52]) = true then some [⟨215, d, 0, 0, 64⟩] else none
def specialS (s0 s2 s3 : List UInt8) (d : Int) : Option (List In) := if (s3 == [108, 108]) = true then (plainS s2).map fun n => [⟨24, d, 0, 0, low32 n⟩, ⟨0, 0, 0, 0, high32 n⟩]
  else if (s2 == [109, 97, 112]) = true then (immS s3).map fun v => [⟨24, d, 1, 0, v⟩, zeroI]
  else if (s2 == [102, 117, 110, 99]) = true then (offS s3 2147483647).map fun v => [⟨24, d, 4, 0, v⟩, zeroI]
  else if (s3 == s0) = false then none else swS s2 d
theorem inS_two (w : World) (x y : In) {n : Nat} (hn : n = w.heap.size) : InS (w.alloc (.cells #[.int .u8 x.op, .int .u8 x.dst, .int .u8 x.src, .int .i16 x.off, .int .i32 x.imm, .int .u8 y.op, .int .u8 y.dst, .int .u8 y.src, .int .i16 y.off, .int .i32 y.imm] 75)) (.slice (some ⟨n, 0, none⟩) 2 2) [x, y] := by
  subst hn
  exact inS_new w [x, y] (by simp)
theorem own_two {n k : Nat} (h : (Value.slice (some ⟨n + 1, 0, none⟩) 2 2).ownBlock = some k) : n ≤ k := by
  have : n + 1 = k := Option.some.inj h
  omega
theorem own_none {n k : Nat} (h : (Value.slice none 0 0).ownBlock = some k) : n ≤ k := by cases h
theorem naST : ∀ w, (isAgg 9).run Tryz.prog w = .ok false w := fun w => by kernel_rfl
theorem naI32 : ∀ w, (isAgg 21).run Tryz.prog w = .ok false w := fun w => by kernel_rfl
theorem naU8q : ∀ w, (isAgg 5).run Tryz.prog w = .ok false w := fun w => by kernel_rfl
/-- the six names' rows in memory -/
structure Nm (w : World) (g B : Nat) (s2 : List UInt8) : Prop where
  cell : w.cell? ⟨g, 2, none⟩ = some (stV s2)
  nm : Blk w (B + 1) 350 #[stV [108, 101], stV [98, 101], stV [115, 119, 97, 112]]
  op : Blk w (B + 1 + 1) 351 #[.int .u8 212, .int .u8 220, .int .u8 215]
  sz : Blk w (B + 1 + 1 + 1) 352 #[.int .i32 16, .int .i32 32, .int .i32 64]
theorem Nm.kept {w w' : World} {g B : Nat} {s2 : List UInt8} (h : Nm w g B s2) (hg : g < w.heap.size) (hk : Kept (fun _ => False) w w') : Nm w' g B s2 :=
  ⟨(hk.cell (p := ⟨g, 2, none⟩) hg id).trans h.cell, hk.blk id h.nm, hk.blk id h.op, hk.blk id h.sz⟩
theorem blk_new (w : World) {t : TypeId} {cs : Array Value} {n : Nat} (hn : n = w.heap.size) : Blk (w.alloc (.cells cs t)) n t cs := hn ▸ Blk.new w t cs
def swU (s : List UInt8) (d : Int) : Nat → Option (List In)
  | 0 => none
  | n + 1 => if (s == ([[108, 101, 49, 54], [108, 101, 51, 50], [108, 101, 54, 52], [98, 101, 49, 54], [98, 101, 51, 50], [98, 101, 54, 52], [115, 119, 97, 112, 49, 54], [115, 119, 97, 112, 51, 50], [115, 119, 97, 112, 54, 52]].reverse[n]?.getD [])) = true
    then some [⟨[212, 212, 212, 220, 220, 220, 215, 215, 215].reverse[n]?.getD 0, d, 0, 0, [16, 32, 64, 16, 32, 64, 16, 32, 64].reverse[n]?.getD 0⟩] else swU s d n
theorem swU_all (s : List UInt8) (d : Int) : swU s d 9 = swS s d := rfl
theorem inS_one (w : World) (x : In) {n : Nat} (hn : n = w.heap.size) : InS (w.alloc (.cells #[.int .u8 x.op, .int .u8 x.dst, .int .u8 x.src, .int .i16 x.off, .int .i32 x.imm] 75)) (.slice (some ⟨n, 0, none⟩) 1 1) [x] := by
  subst hn
  exact inS_new w [x] (by simp)
set_option maxHeartbeats 8000000 in
set_option maxRecDepth 100000 in
theorem special_names (s0 s2 s3 : List UInt8) (g cap : Nat) (d : Int) (R : Option (List In)) (w : World) (c0 : w.cell? ⟨g, 0, none⟩ = some (stV s0)) (c2 : w.cell? ⟨g, 2, none⟩ = some (stV s2)) (c3 : w.cell? ⟨g, 3, none⟩ = some (stV s3)) (hlt : g < w.heap.size)
    (q1 : (s3 == [108, 108]) = false) (q2 : (s2 == [109, 97, 112]) = false) (q3 : (s2 == [102, 117, 110, 99]) = false) (q4 : (s3 == s0) = true) (hR : swS s2 d = R) :
    Calls Tryz.prog 226 #[.slice (some ⟨g, 0, none⟩) 4 cap, .int .u8 d, .bool true] w fun e w' => (∃ v, e = .returned (.tuple #[v, .bool R.isSome]) ∧ (∀ l, R = some l → InS w' v l) ∧ ∀ k, v.ownBlock = some k → w.heap.size ≤ k) ∧ Kept (fun _ => False) w w' := by
  have q4n : (!(s3 == s0)) = false := by rw [q4]; rfl
  have HN1 : Hid (∀ W, Calls Tryz.prog 255 #[.int .i64 16] W fun e w' => e = .returned (stV [49, 54]) ∧ Kept (fun _ => False) W w') := Lib.hid (fun W => rNumber_any 16 W (by omega))
  have HN2 : Hid (∀ W, Calls Tryz.prog 255 #[.int .i64 32] W fun e w' => e = .returned (stV [51, 50]) ∧ Kept (fun _ => False) W w') := Lib.hid (fun W => rNumber_any 32 W (by omega))
  have HN3 : Hid (∀ W, Calls Tryz.prog 255 #[.int .i64 64] W fun e w' => e = .returned (stV [54, 52]) ∧ Kept (fun _ => False) W w') := Lib.hid (fun W => rNumber_any 64 W (by omega))
  have HR : Hid (swU s2 d 9 = R) := Lib.hid ((swU_all s2 d).trans hR)
  clear hR
  go_enter Tryz.func226, Tryz.ntmps226
  go_wp2_with fail
  refine wp_region_mix0 [.w, .w, .l, .w, .w, .l, .w] (by kernel_rfl) (by kernel_rfl) ?_
  repeat (first
    | (refine mix_w1 ?_; go_big_quiet_step (fail); refine wpQuiet_nil ?_)
    | (refine mix_l1 rfl ?_; go_big_quiet_step (fail); refine wpQuiet_nil ?_))
  refine mix_done ?_
  go_wp2_with fail
  have hK0 := Lib.hid ((((((Kept.refl (fun _ => False) w).alloc (.cells #[.int .u8 24, .int .u8 d, .int .u8 0, .int .i16 0, .int .i32 0] 75)).alloc (.cells #[stV [108, 101], stV [98, 101], stV [115, 119, 97, 112]] 350)).alloc (.cells #[.int .u8 212, .int .u8 220, .int .u8 215] 351)).alloc (.cells #[.int .i32 16, .int .i32 32, .int .i32 64] 352)).drew)
  clear c0 c3 q1 q2 q3 q4 q4n
  go_loopw [18] (fun iv wr => ∃ i : Int, iv = .int .i64 i ∧ 0 ≤ i ∧ i ≤ 3 ∧ Nm wr g w.heap.size s2 ∧ Kept (fun _ => False) w wr ∧ g < wr.heap.size ∧ swU s2 d (9 - 3 * i.toNat) = R) (fun iv _ => 3 - (intOf iv).toNat)
  case atStart =>
    refine ⟨0, rfl, by omega, by omega, ⟨?_, ?_, ?_, ?_⟩, hK0.out, Nat.lt_of_lt_of_le hlt hK0.out.size, HR.out⟩
    · exact (hK0.out.cell (p := ⟨g, 2, none⟩) hlt id).trans c2
    · exact Blk.drew (Blk.alloc (Blk.alloc (blk_new (w.alloc _) (by simp)) _) _)
    · exact Blk.drew (Blk.alloc (blk_new ((w.alloc _).alloc _) (by simp)) _)
    · exact Blk.drew (blk_new (((w.alloc _).alloc _).alloc _) (by simp))
  case round =>
    obtain ⟨i, rfl, hi0, hi3, hnm, hkw, hgw, hsw⟩ := hrel
    have hi4 : i = 0 ∨ i = 1 ∨ i = 2 ∨ i = 3 := by omega
    clear hi0 hi3 HR hK0 c2
    have HS := Lib.hid hsw
    clear hsw
    rcases hi4 with rfl | rfl | rfl | rfl
    case inr.inr.inr =>
      have hR : none = R := HS.out
      subst hR
      go_wp2_with fail
      refine bodyPost_ret (v := .tuple #[.slice none 0 0, .bool false]) (by simp [results, Tryz.results226, go_sem]) rfl ?_
      exact ⟨⟨_, rfl, fun l h => by (cases h), fun k hk => own_none hk⟩, hkw⟩
    -- ROUNDS
    · go_wp2_with fail
      go_loopw [19] (fun kv wr => ∃ k : Int, kv = .int .i64 k ∧ 0 ≤ k ∧ k ≤ 3 ∧ Nm wr g w.heap.size s2 ∧ Kept (fun _ => False) w wr ∧ g < wr.heap.size ∧ swU s2 d (9 - k.toNat) = R) (fun kv _ => 3 - (intOf kv).toNat)
      case atStart => exact ⟨0, rfl, by omega, by omega, hnm, hkw, hgw, HS.out⟩
      case round =>
        clear HS hkw hnm hgw
        obtain ⟨k, rfl, hk0, hk3, hnm, hkw, hgw, hsw⟩ := hrel
        have hk4 : k = 0 ∨ k = 1 ∨ k = 2 ∨ k = 3 := by omega
        clear hk0 hk3
        have HS := Lib.hid hsw
        clear hsw
        rcases hk4 with rfl | rfl | rfl | rfl
        case inr.inr.inr =>
          go_wp2_with fail
          go_roundw
          case rel => exact ⟨1, rfl, by omega, by omega, hnm, hkw, hgw, HS.out⟩
          case measure => (simp [intOf])
        · have HS1 : Hid ((if (s2 == [108, 101, 49, 54]) = true then some [(⟨212, d, 0, 0, 16⟩ : In)] else swU s2 d 8) = R) := Lib.hid HS.out
          clear HS
          have hadd : ∀ W, (Op.stringOp .add ⟨#[108, 101]⟩ ⟨#[49, 54]⟩).run Tryz.prog W = .ok (stV [108, 101, 49, 54]) W := fun W => run_string_add_lists (P := Tryz.prog) (w := W) [108, 101] [49, 54] (by simp) (by simp)
          have HC := Lib.hid (fun W W' (h : Nm W g w.heap.size s2 ∧ Kept (fun _ => False) w W ∧ g < W.heap.size) (hk : Kept (fun _ => False) W W') => (⟨h.1.kept h.2.2 hk, h.2.1.trans hk (fun _ _ h => h), Nat.lt_of_lt_of_le h.2.2 hk.size⟩ : Nm W' g w.heap.size s2 ∧ Kept (fun _ => False) w W' ∧ g < W'.heap.size))
          cases q : (s2 == [108, 101, 49, 54])
          all_goals
            have HQ : Hid ((s2 == [108, 101, 49, 54]) = _) := Lib.hid q
            go_wp2_with fail
            refine wp_region_mix [.w, .w, .l, .w, .w, .l, .w, .w, .l, .w, .k, .w, .w] (by kernel_rfl) (by kernel_rfl) (fun W => Nm W g w.heap.size s2 ∧ Kept (fun _ => False) w W ∧ g < W.heap.size) ?_
            have hcd := HC.out wr _ ⟨hnm, hkw, hgw⟩ (Kept.refl _ wr).drew
            repeat (refine mix_w1 ?_; go_big_quiet_step (fail); refine wpQuiet_nil ?_)
            refine mix_load1 hcd rfl 9 (.tmp 107) rfl naST ⟨g, 2, none⟩ (stV s2) rfl (fun w' hw' => hw'.1.cell) ?_
            simp only [Act.put, List.setIfInBounds_toArray, List.set_cons_succ, List.set_cons_zero]
            repeat (refine mix_w1 ?_; go_big_quiet_step (fail); refine wpQuiet_nil ?_)
            refine mix_load1 hcd rfl 9 (.tmp 110) rfl naST ⟨w.heap.size + 1, 0, none⟩ (stV [108, 101]) rfl (fun w' hw' => hw'.1.nm.cell 0) ?_
            simp only [Act.put, List.setIfInBounds_toArray, List.set_cons_succ, List.set_cons_zero]
            repeat (refine mix_w1 ?_; go_big_quiet_step (fail); refine wpQuiet_nil ?_)
            refine mix_load1 hcd rfl 21 (.tmp 113) rfl naI32 ⟨w.heap.size + 1 + 1 + 1, 0, none⟩ (.int .i32 16) rfl (fun w' hw' => hw'.1.sz.cell 0) ?_
            simp only [Act.put, List.setIfInBounds_toArray, List.set_cons_succ, List.set_cons_zero]
            repeat (refine mix_w1 ?_; go_big_quiet_step (fail); refine wpQuiet_nil ?_)
            refine mix_k hcd fun Q' hQ' => ?_
            go_wp2_with fail
            refine (HN1.out _).mono ?_
            rintro e w6 ⟨rfl, hk6⟩
            have hc6 := HC.out _ w6 hcd hk6
            go_wp2_with fail
            refine hQ' _ _ hc6 ?_
            clear hQ' Q' hcd hk6 hnm hkw hgw
            repeat (refine mix_w1 ?_; go_big_quiet_step (fail); refine wpQuiet_nil ?_)
            refine mix_done ?_
            go_wp2_with fail
            first
            | (go_roundw
               case rel => exact ⟨1, rfl, by omega, by omega, hc6.1, hc6.2.1, hc6.2.2, (if_neg (by rw [HQ.out]; decide)).symm.trans HS1.out⟩
               case measure => (simp [intOf]))
            | skip
          refine wp_region_mix [.w, .w, .l, .w, .w, .w, .l, .w, .t, .t, .t] (by kernel_rfl) (by kernel_rfl) (fun W => Nm W g w.heap.size s2 ∧ Kept (fun _ => False) w W ∧ g < W.heap.size) ?_
          have hcd := HC.out w6 _ hc6 (Kept.refl _ w6).drew
          repeat (refine mix_w1 ?_; go_big_quiet_step (fail); refine wpQuiet_nil ?_)
          refine mix_load1 hcd rfl 5 (.tmp 120) rfl naU8q ⟨w.heap.size + 1 + 1, 0, none⟩ (.int .u8 212) rfl (fun w' hw' => hw'.1.op.cell 0) ?_
          simp only [Act.put, List.setIfInBounds_toArray, List.set_cons_succ, List.set_cons_zero]
          repeat (refine mix_w1 ?_; go_big_quiet_step (fail); refine wpQuiet_nil ?_)
          refine mix_load1 hcd rfl 21 (.tmp 124) rfl naI32 ⟨w.heap.size + 1 + 1 + 1, 0, none⟩ (.int .i32 16) rfl (fun w' hw' => hw'.1.sz.cell 0) ?_
          simp only [Act.put, List.setIfInBounds_toArray, List.set_cons_succ, List.set_cons_zero]
          repeat (refine mix_w1 ?_; go_big_quiet_step (fail); refine wpQuiet_nil ?_)
          repeat (refine mix_t fun Q' hQ' => ?_; go_wp2_with fail)
          refine mix_done ?_
          go_wp2_with fail
          have hR := (if_pos HQ.out).symm.trans HS1.out
          subst hR
          refine bodyPost_ret (v := .tuple #[.slice (some ⟨w6.heap.size, 0, none⟩) 1 1, .bool true]) (by simp [results, Tryz.results226, go_sem]) rfl ?_
          refine ⟨⟨_, rfl, fun l h => ?_, fun k hk => by have : w6.heap.size = k := Option.some.inj hk
                                                         have := hc6.2.1.size
                                                         omega⟩, hcd.2.1.alloc _⟩
          cases h
          exact inS_one _ ⟨212, d, 0, 0, 16⟩ rfl
        · have HS1 : Hid ((if (s2 == [108, 101, 51, 50]) = true then some [(⟨212, d, 0, 0, 32⟩ : In)] else swU s2 d 7) = R) := Lib.hid HS.out
          clear HS
          have hadd : ∀ W, (Op.stringOp .add ⟨#[108, 101]⟩ ⟨#[51, 50]⟩).run Tryz.prog W = .ok (stV [108, 101, 51, 50]) W := fun W => run_string_add_lists (P := Tryz.prog) (w := W) [108, 101] [51, 50] (by simp) (by simp)
          have HC := Lib.hid (fun W W' (h : Nm W g w.heap.size s2 ∧ Kept (fun _ => False) w W ∧ g < W.heap.size) (hk : Kept (fun _ => False) W W') => (⟨h.1.kept h.2.2 hk, h.2.1.trans hk (fun _ _ h => h), Nat.lt_of_lt_of_le h.2.2 hk.size⟩ : Nm W' g w.heap.size s2 ∧ Kept (fun _ => False) w W' ∧ g < W'.heap.size))
          cases q : (s2 == [108, 101, 51, 50])
          all_goals
            have HQ : Hid ((s2 == [108, 101, 51, 50]) = _) := Lib.hid q
            go_wp2_with fail
            refine wp_region_mix [.w, .w, .l, .w, .w, .l, .w, .w, .l, .w, .k, .w, .w] (by kernel_rfl) (by kernel_rfl) (fun W => Nm W g w.heap.size s2 ∧ Kept (fun _ => False) w W ∧ g < W.heap.size) ?_
            have hcd := HC.out wr _ ⟨hnm, hkw, hgw⟩ (Kept.refl _ wr).drew
            repeat (refine mix_w1 ?_; go_big_quiet_step (fail); refine wpQuiet_nil ?_)
            refine mix_load1 hcd rfl 9 (.tmp 107) rfl naST ⟨g, 2, none⟩ (stV s2) rfl (fun w' hw' => hw'.1.cell) ?_
            simp only [Act.put, List.setIfInBounds_toArray, List.set_cons_succ, List.set_cons_zero]
            repeat (refine mix_w1 ?_; go_big_quiet_step (fail); refine wpQuiet_nil ?_)
            refine mix_load1 hcd rfl 9 (.tmp 110) rfl naST ⟨w.heap.size + 1, 0, none⟩ (stV [108, 101]) rfl (fun w' hw' => hw'.1.nm.cell 0) ?_
            simp only [Act.put, List.setIfInBounds_toArray, List.set_cons_succ, List.set_cons_zero]
            repeat (refine mix_w1 ?_; go_big_quiet_step (fail); refine wpQuiet_nil ?_)
            refine mix_load1 hcd rfl 21 (.tmp 113) rfl naI32 ⟨w.heap.size + 1 + 1 + 1, 1, none⟩ (.int .i32 32) rfl (fun w' hw' => hw'.1.sz.cell 1) ?_
            simp only [Act.put, List.setIfInBounds_toArray, List.set_cons_succ, List.set_cons_zero]
            repeat (refine mix_w1 ?_; go_big_quiet_step (fail); refine wpQuiet_nil ?_)
            refine mix_k hcd fun Q' hQ' => ?_
            go_wp2_with fail
            refine (HN2.out _).mono ?_
            rintro e w6 ⟨rfl, hk6⟩
            have hc6 := HC.out _ w6 hcd hk6
            go_wp2_with fail
            refine hQ' _ _ hc6 ?_
            clear hQ' Q' hcd hk6 hnm hkw hgw
            repeat (refine mix_w1 ?_; go_big_quiet_step (fail); refine wpQuiet_nil ?_)
            refine mix_done ?_
            go_wp2_with fail
            first
            | (go_roundw
               case rel => exact ⟨2, rfl, by omega, by omega, hc6.1, hc6.2.1, hc6.2.2, (if_neg (by rw [HQ.out]; decide)).symm.trans HS1.out⟩
               case measure => (simp [intOf]))
            | skip
          refine wp_region_mix [.w, .w, .l, .w, .w, .w, .l, .w, .t, .t, .t] (by kernel_rfl) (by kernel_rfl) (fun W => Nm W g w.heap.size s2 ∧ Kept (fun _ => False) w W ∧ g < W.heap.size) ?_
          have hcd := HC.out w6 _ hc6 (Kept.refl _ w6).drew
          repeat (refine mix_w1 ?_; go_big_quiet_step (fail); refine wpQuiet_nil ?_)
          refine mix_load1 hcd rfl 5 (.tmp 120) rfl naU8q ⟨w.heap.size + 1 + 1, 0, none⟩ (.int .u8 212) rfl (fun w' hw' => hw'.1.op.cell 0) ?_
          simp only [Act.put, List.setIfInBounds_toArray, List.set_cons_succ, List.set_cons_zero]
          repeat (refine mix_w1 ?_; go_big_quiet_step (fail); refine wpQuiet_nil ?_)
          refine mix_load1 hcd rfl 21 (.tmp 124) rfl naI32 ⟨w.heap.size + 1 + 1 + 1, 1, none⟩ (.int .i32 32) rfl (fun w' hw' => hw'.1.sz.cell 1) ?_
          simp only [Act.put, List.setIfInBounds_toArray, List.set_cons_succ, List.set_cons_zero]
          repeat (refine mix_w1 ?_; go_big_quiet_step (fail); refine wpQuiet_nil ?_)
          repeat (refine mix_t fun Q' hQ' => ?_; go_wp2_with fail)
          refine mix_done ?_
          go_wp2_with fail
          have hR := (if_pos HQ.out).symm.trans HS1.out
          subst hR
          refine bodyPost_ret (v := .tuple #[.slice (some ⟨w6.heap.size, 0, none⟩) 1 1, .bool true]) (by simp [results, Tryz.results226, go_sem]) rfl ?_
          refine ⟨⟨_, rfl, fun l h => ?_, fun k hk => by have : w6.heap.size = k := Option.some.inj hk
                                                         have := hc6.2.1.size
                                                         omega⟩, hcd.2.1.alloc _⟩
          cases h
          exact inS_one _ ⟨212, d, 0, 0, 32⟩ rfl
        · have HS1 : Hid ((if (s2 == [108, 101, 54, 52]) = true then some [(⟨212, d, 0, 0, 64⟩ : In)] else swU s2 d 6) = R) := Lib.hid HS.out
          clear HS
          have hadd : ∀ W, (Op.stringOp .add ⟨#[108, 101]⟩ ⟨#[54, 52]⟩).run Tryz.prog W = .ok (stV [108, 101, 54, 52]) W := fun W => run_string_add_lists (P := Tryz.prog) (w := W) [108, 101] [54, 52] (by simp) (by simp)
          have HC := Lib.hid (fun W W' (h : Nm W g w.heap.size s2 ∧ Kept (fun _ => False) w W ∧ g < W.heap.size) (hk : Kept (fun _ => False) W W') => (⟨h.1.kept h.2.2 hk, h.2.1.trans hk (fun _ _ h => h), Nat.lt_of_lt_of_le h.2.2 hk.size⟩ : Nm W' g w.heap.size s2 ∧ Kept (fun _ => False) w W' ∧ g < W'.heap.size))
          cases q : (s2 == [108, 101, 54, 52])
          all_goals
            have HQ : Hid ((s2 == [108, 101, 54, 52]) = _) := Lib.hid q
            go_wp2_with fail
            refine wp_region_mix [.w, .w, .l, .w, .w, .l, .w, .w, .l, .w, .k, .w, .w] (by kernel_rfl) (by kernel_rfl) (fun W => Nm W g w.heap.size s2 ∧ Kept (fun _ => False) w W ∧ g < W.heap.size) ?_
            have hcd := HC.out wr _ ⟨hnm, hkw, hgw⟩ (Kept.refl _ wr).drew
            repeat (refine mix_w1 ?_; go_big_quiet_step (fail); refine wpQuiet_nil ?_)
            refine mix_load1 hcd rfl 9 (.tmp 107) rfl naST ⟨g, 2, none⟩ (stV s2) rfl (fun w' hw' => hw'.1.cell) ?_
            simp only [Act.put, List.setIfInBounds_toArray, List.set_cons_succ, List.set_cons_zero]
            repeat (refine mix_w1 ?_; go_big_quiet_step (fail); refine wpQuiet_nil ?_)
            refine mix_load1 hcd rfl 9 (.tmp 110) rfl naST ⟨w.heap.size + 1, 0, none⟩ (stV [108, 101]) rfl (fun w' hw' => hw'.1.nm.cell 0) ?_
            simp only [Act.put, List.setIfInBounds_toArray, List.set_cons_succ, List.set_cons_zero]
            repeat (refine mix_w1 ?_; go_big_quiet_step (fail); refine wpQuiet_nil ?_)
            refine mix_load1 hcd rfl 21 (.tmp 113) rfl naI32 ⟨w.heap.size + 1 + 1 + 1, 2, none⟩ (.int .i32 64) rfl (fun w' hw' => hw'.1.sz.cell 2) ?_
            simp only [Act.put, List.setIfInBounds_toArray, List.set_cons_succ, List.set_cons_zero]
            repeat (refine mix_w1 ?_; go_big_quiet_step (fail); refine wpQuiet_nil ?_)
            refine mix_k hcd fun Q' hQ' => ?_
            go_wp2_with fail
            refine (HN3.out _).mono ?_
            rintro e w6 ⟨rfl, hk6⟩
            have hc6 := HC.out _ w6 hcd hk6
            go_wp2_with fail
            refine hQ' _ _ hc6 ?_
            clear hQ' Q' hcd hk6 hnm hkw hgw
            repeat (refine mix_w1 ?_; go_big_quiet_step (fail); refine wpQuiet_nil ?_)
            refine mix_done ?_
            go_wp2_with fail
            first
            | (go_roundw
               case rel => exact ⟨3, rfl, by omega, by omega, hc6.1, hc6.2.1, hc6.2.2, (if_neg (by rw [HQ.out]; decide)).symm.trans HS1.out⟩
               case measure => (simp [intOf]))
            | skip
          refine wp_region_mix [.w, .w, .l, .w, .w, .w, .l, .w, .t, .t, .t] (by kernel_rfl) (by kernel_rfl) (fun W => Nm W g w.heap.size s2 ∧ Kept (fun _ => False) w W ∧ g < W.heap.size) ?_
          have hcd := HC.out w6 _ hc6 (Kept.refl _ w6).drew
          repeat (refine mix_w1 ?_; go_big_quiet_step (fail); refine wpQuiet_nil ?_)
          refine mix_load1 hcd rfl 5 (.tmp 120) rfl naU8q ⟨w.heap.size + 1 + 1, 0, none⟩ (.int .u8 212) rfl (fun w' hw' => hw'.1.op.cell 0) ?_
          simp only [Act.put, List.setIfInBounds_toArray, List.set_cons_succ, List.set_cons_zero]
          repeat (refine mix_w1 ?_; go_big_quiet_step (fail); refine wpQuiet_nil ?_)
          refine mix_load1 hcd rfl 21 (.tmp 124) rfl naI32 ⟨w.heap.size + 1 + 1 + 1, 2, none⟩ (.int .i32 64) rfl (fun w' hw' => hw'.1.sz.cell 2) ?_
          simp only [Act.put, List.setIfInBounds_toArray, List.set_cons_succ, List.set_cons_zero]
          repeat (refine mix_w1 ?_; go_big_quiet_step (fail); refine wpQuiet_nil ?_)
          repeat (refine mix_t fun Q' hQ' => ?_; go_wp2_with fail)
          refine mix_done ?_
          go_wp2_with fail
          have hR := (if_pos HQ.out).symm.trans HS1.out
          subst hR
          refine bodyPost_ret (v := .tuple #[.slice (some ⟨w6.heap.size, 0, none⟩) 1 1, .bool true]) (by simp [results, Tryz.results226, go_sem]) rfl ?_
          refine ⟨⟨_, rfl, fun l h => ?_, fun k hk => by have : w6.heap.size = k := Option.some.inj hk
                                                         have := hc6.2.1.size
                                                         omega⟩, hcd.2.1.alloc _⟩
          cases h
          exact inS_one _ ⟨212, d, 0, 0, 64⟩ rfl
    · go_wp2_with fail
      go_loopw [19] (fun kv wr => ∃ k : Int, kv = .int .i64 k ∧ 0 ≤ k ∧ k ≤ 3 ∧ Nm wr g w.heap.size s2 ∧ Kept (fun _ => False) w wr ∧ g < wr.heap.size ∧ swU s2 d (6 - k.toNat) = R) (fun kv _ => 3 - (intOf kv).toNat)
      case atStart => exact ⟨0, rfl, by omega, by omega, hnm, hkw, hgw, HS.out⟩
      case round =>
        clear HS hkw hnm hgw
        obtain ⟨k, rfl, hk0, hk3, hnm, hkw, hgw, hsw⟩ := hrel
        have hk4 : k = 0 ∨ k = 1 ∨ k = 2 ∨ k = 3 := by omega
        clear hk0 hk3
        have HS := Lib.hid hsw
        clear hsw
        rcases hk4 with rfl | rfl | rfl | rfl
        case inr.inr.inr =>
          go_wp2_with fail
          go_roundw
          case rel => exact ⟨2, rfl, by omega, by omega, hnm, hkw, hgw, HS.out⟩
          case measure => (simp [intOf])
        · have HS1 : Hid ((if (s2 == [98, 101, 49, 54]) = true then some [(⟨220, d, 0, 0, 16⟩ : In)] else swU s2 d 5) = R) := Lib.hid HS.out
          clear HS
          have hadd : ∀ W, (Op.stringOp .add ⟨#[98, 101]⟩ ⟨#[49, 54]⟩).run Tryz.prog W = .ok (stV [98, 101, 49, 54]) W := fun W => run_string_add_lists (P := Tryz.prog) (w := W) [98, 101] [49, 54] (by simp) (by simp)
          have HC := Lib.hid (fun W W' (h : Nm W g w.heap.size s2 ∧ Kept (fun _ => False) w W ∧ g < W.heap.size) (hk : Kept (fun _ => False) W W') => (⟨h.1.kept h.2.2 hk, h.2.1.trans hk (fun _ _ h => h), Nat.lt_of_lt_of_le h.2.2 hk.size⟩ : Nm W' g w.heap.size s2 ∧ Kept (fun _ => False) w W' ∧ g < W'.heap.size))
          cases q : (s2 == [98, 101, 49, 54])
          all_goals
            have HQ : Hid ((s2 == [98, 101, 49, 54]) = _) := Lib.hid q
            go_wp2_with fail
            refine wp_region_mix [.w, .w, .l, .w, .w, .l, .w, .w, .l, .w, .k, .w, .w] (by kernel_rfl) (by kernel_rfl) (fun W => Nm W g w.heap.size s2 ∧ Kept (fun _ => False) w W ∧ g < W.heap.size) ?_
            have hcd := HC.out wr _ ⟨hnm, hkw, hgw⟩ (Kept.refl _ wr).drew
            repeat (refine mix_w1 ?_; go_big_quiet_step (fail); refine wpQuiet_nil ?_)
            refine mix_load1 hcd rfl 9 (.tmp 107) rfl naST ⟨g, 2, none⟩ (stV s2) rfl (fun w' hw' => hw'.1.cell) ?_
            simp only [Act.put, List.setIfInBounds_toArray, List.set_cons_succ, List.set_cons_zero]
            repeat (refine mix_w1 ?_; go_big_quiet_step (fail); refine wpQuiet_nil ?_)
            refine mix_load1 hcd rfl 9 (.tmp 110) rfl naST ⟨w.heap.size + 1, 1, none⟩ (stV [98, 101]) rfl (fun w' hw' => hw'.1.nm.cell 1) ?_
            simp only [Act.put, List.setIfInBounds_toArray, List.set_cons_succ, List.set_cons_zero]
            repeat (refine mix_w1 ?_; go_big_quiet_step (fail); refine wpQuiet_nil ?_)
            refine mix_load1 hcd rfl 21 (.tmp 113) rfl naI32 ⟨w.heap.size + 1 + 1 + 1, 0, none⟩ (.int .i32 16) rfl (fun w' hw' => hw'.1.sz.cell 0) ?_
            simp only [Act.put, List.setIfInBounds_toArray, List.set_cons_succ, List.set_cons_zero]
            repeat (refine mix_w1 ?_; go_big_quiet_step (fail); refine wpQuiet_nil ?_)
            refine mix_k hcd fun Q' hQ' => ?_
            go_wp2_with fail
            refine (HN1.out _).mono ?_
            rintro e w6 ⟨rfl, hk6⟩
            have hc6 := HC.out _ w6 hcd hk6
            go_wp2_with fail
            refine hQ' _ _ hc6 ?_
            clear hQ' Q' hcd hk6 hnm hkw hgw
            repeat (refine mix_w1 ?_; go_big_quiet_step (fail); refine wpQuiet_nil ?_)
            refine mix_done ?_
            go_wp2_with fail
            first
            | (go_roundw
               case rel => exact ⟨1, rfl, by omega, by omega, hc6.1, hc6.2.1, hc6.2.2, (if_neg (by rw [HQ.out]; decide)).symm.trans HS1.out⟩
               case measure => (simp [intOf]))
            | skip
          refine wp_region_mix [.w, .w, .l, .w, .w, .w, .l, .w, .t, .t, .t] (by kernel_rfl) (by kernel_rfl) (fun W => Nm W g w.heap.size s2 ∧ Kept (fun _ => False) w W ∧ g < W.heap.size) ?_
          have hcd := HC.out w6 _ hc6 (Kept.refl _ w6).drew
          repeat (refine mix_w1 ?_; go_big_quiet_step (fail); refine wpQuiet_nil ?_)
          refine mix_load1 hcd rfl 5 (.tmp 120) rfl naU8q ⟨w.heap.size + 1 + 1, 1, none⟩ (.int .u8 220) rfl (fun w' hw' => hw'.1.op.cell 1) ?_
          simp only [Act.put, List.setIfInBounds_toArray, List.set_cons_succ, List.set_cons_zero]
          repeat (refine mix_w1 ?_; go_big_quiet_step (fail); refine wpQuiet_nil ?_)
          refine mix_load1 hcd rfl 21 (.tmp 124) rfl naI32 ⟨w.heap.size + 1 + 1 + 1, 0, none⟩ (.int .i32 16) rfl (fun w' hw' => hw'.1.sz.cell 0) ?_
          simp only [Act.put, List.setIfInBounds_toArray, List.set_cons_succ, List.set_cons_zero]
          repeat (refine mix_w1 ?_; go_big_quiet_step (fail); refine wpQuiet_nil ?_)
          repeat (refine mix_t fun Q' hQ' => ?_; go_wp2_with fail)
          refine mix_done ?_
          go_wp2_with fail
          have hR := (if_pos HQ.out).symm.trans HS1.out
          subst hR
          refine bodyPost_ret (v := .tuple #[.slice (some ⟨w6.heap.size, 0, none⟩) 1 1, .bool true]) (by simp [results, Tryz.results226, go_sem]) rfl ?_
          refine ⟨⟨_, rfl, fun l h => ?_, fun k hk => by have : w6.heap.size = k := Option.some.inj hk
                                                         have := hc6.2.1.size
                                                         omega⟩, hcd.2.1.alloc _⟩
          cases h
          exact inS_one _ ⟨220, d, 0, 0, 16⟩ rfl
        · have HS1 : Hid ((if (s2 == [98, 101, 51, 50]) = true then some [(⟨220, d, 0, 0, 32⟩ : In)] else swU s2 d 4) = R) := Lib.hid HS.out
          clear HS
          have hadd : ∀ W, (Op.stringOp .add ⟨#[98, 101]⟩ ⟨#[51, 50]⟩).run Tryz.prog W = .ok (stV [98, 101, 51, 50]) W := fun W => run_string_add_lists (P := Tryz.prog) (w := W) [98, 101] [51, 50] (by simp) (by simp)
          have HC := Lib.hid (fun W W' (h : Nm W g w.heap.size s2 ∧ Kept (fun _ => False) w W ∧ g < W.heap.size) (hk : Kept (fun _ => False) W W') => (⟨h.1.kept h.2.2 hk, h.2.1.trans hk (fun _ _ h => h), Nat.lt_of_lt_of_le h.2.2 hk.size⟩ : Nm W' g w.heap.size s2 ∧ Kept (fun _ => False) w W' ∧ g < W'.heap.size))
          cases q : (s2 == [98, 101, 51, 50])
          all_goals
            have HQ : Hid ((s2 == [98, 101, 51, 50]) = _) := Lib.hid q
            go_wp2_with fail
            refine wp_region_mix [.w, .w, .l, .w, .w, .l, .w, .w, .l, .w, .k, .w, .w] (by kernel_rfl) (by kernel_rfl) (fun W => Nm W g w.heap.size s2 ∧ Kept (fun _ => False) w W ∧ g < W.heap.size) ?_
            have hcd := HC.out wr _ ⟨hnm, hkw, hgw⟩ (Kept.refl _ wr).drew
            repeat (refine mix_w1 ?_; go_big_quiet_step (fail); refine wpQuiet_nil ?_)
            refine mix_load1 hcd rfl 9 (.tmp 107) rfl naST ⟨g, 2, none⟩ (stV s2) rfl (fun w' hw' => hw'.1.cell) ?_
            simp only [Act.put, List.setIfInBounds_toArray, List.set_cons_succ, List.set_cons_zero]
            repeat (refine mix_w1 ?_; go_big_quiet_step (fail); refine wpQuiet_nil ?_)
            refine mix_load1 hcd rfl 9 (.tmp 110) rfl naST ⟨w.heap.size + 1, 1, none⟩ (stV [98, 101]) rfl (fun w' hw' => hw'.1.nm.cell 1) ?_
            simp only [Act.put, List.setIfInBounds_toArray, List.set_cons_succ, List.set_cons_zero]
            repeat (refine mix_w1 ?_; go_big_quiet_step (fail); refine wpQuiet_nil ?_)
            refine mix_load1 hcd rfl 21 (.tmp 113) rfl naI32 ⟨w.heap.size + 1 + 1 + 1, 1, none⟩ (.int .i32 32) rfl (fun w' hw' => hw'.1.sz.cell 1) ?_
            simp only [Act.put, List.setIfInBounds_toArray, List.set_cons_succ, List.set_cons_zero]
            repeat (refine mix_w1 ?_; go_big_quiet_step (fail); refine wpQuiet_nil ?_)
            refine mix_k hcd fun Q' hQ' => ?_
            go_wp2_with fail
            refine (HN2.out _).mono ?_
            rintro e w6 ⟨rfl, hk6⟩
            have hc6 := HC.out _ w6 hcd hk6
            go_wp2_with fail
            refine hQ' _ _ hc6 ?_
            clear hQ' Q' hcd hk6 hnm hkw hgw
            repeat (refine mix_w1 ?_; go_big_quiet_step (fail); refine wpQuiet_nil ?_)
            refine mix_done ?_
            go_wp2_with fail
            first
            | (go_roundw
               case rel => exact ⟨2, rfl, by omega, by omega, hc6.1, hc6.2.1, hc6.2.2, (if_neg (by rw [HQ.out]; decide)).symm.trans HS1.out⟩
               case measure => (simp [intOf]))
            | skip
          refine wp_region_mix [.w, .w, .l, .w, .w, .w, .l, .w, .t, .t, .t] (by kernel_rfl) (by kernel_rfl) (fun W => Nm W g w.heap.size s2 ∧ Kept (fun _ => False) w W ∧ g < W.heap.size) ?_
          have hcd := HC.out w6 _ hc6 (Kept.refl _ w6).drew
          repeat (refine mix_w1 ?_; go_big_quiet_step (fail); refine wpQuiet_nil ?_)
          refine mix_load1 hcd rfl 5 (.tmp 120) rfl naU8q ⟨w.heap.size + 1 + 1, 1, none⟩ (.int .u8 220) rfl (fun w' hw' => hw'.1.op.cell 1) ?_
          simp only [Act.put, List.setIfInBounds_toArray, List.set_cons_succ, List.set_cons_zero]
          repeat (refine mix_w1 ?_; go_big_quiet_step (fail); refine wpQuiet_nil ?_)
          refine mix_load1 hcd rfl 21 (.tmp 124) rfl naI32 ⟨w.heap.size + 1 + 1 + 1, 1, none⟩ (.int .i32 32) rfl (fun w' hw' => hw'.1.sz.cell 1) ?_
          simp only [Act.put, List.setIfInBounds_toArray, List.set_cons_succ, List.set_cons_zero]
          repeat (refine mix_w1 ?_; go_big_quiet_step (fail); refine wpQuiet_nil ?_)
          repeat (refine mix_t fun Q' hQ' => ?_; go_wp2_with fail)
          refine mix_done ?_
          go_wp2_with fail
          have hR := (if_pos HQ.out).symm.trans HS1.out
          subst hR
          refine bodyPost_ret (v := .tuple #[.slice (some ⟨w6.heap.size, 0, none⟩) 1 1, .bool true]) (by simp [results, Tryz.results226, go_sem]) rfl ?_
          refine ⟨⟨_, rfl, fun l h => ?_, fun k hk => by have : w6.heap.size = k := Option.some.inj hk
                                                         have := hc6.2.1.size
                                                         omega⟩, hcd.2.1.alloc _⟩
          cases h
          exact inS_one _ ⟨220, d, 0, 0, 32⟩ rfl
        · have HS1 : Hid ((if (s2 == [98, 101, 54, 52]) = true then some [(⟨220, d, 0, 0, 64⟩ : In)] else swU s2 d 3) = R) := Lib.hid HS.out
          clear HS
          have hadd : ∀ W, (Op.stringOp .add ⟨#[98, 101]⟩ ⟨#[54, 52]⟩).run Tryz.prog W = .ok (stV [98, 101, 54, 52]) W := fun W => run_string_add_lists (P := Tryz.prog) (w := W) [98, 101] [54, 52] (by simp) (by simp)
          have HC := Lib.hid (fun W W' (h : Nm W g w.heap.size s2 ∧ Kept (fun _ => False) w W ∧ g < W.heap.size) (hk : Kept (fun _ => False) W W') => (⟨h.1.kept h.2.2 hk, h.2.1.trans hk (fun _ _ h => h), Nat.lt_of_lt_of_le h.2.2 hk.size⟩ : Nm W' g w.heap.size s2 ∧ Kept (fun _ => False) w W' ∧ g < W'.heap.size))
          cases q : (s2 == [98, 101, 54, 52])
          all_goals
            have HQ : Hid ((s2 == [98, 101, 54, 52]) = _) := Lib.hid q
            go_wp2_with fail
            refine wp_region_mix [.w, .w, .l, .w, .w, .l, .w, .w, .l, .w, .k, .w, .w] (by kernel_rfl) (by kernel_rfl) (fun W => Nm W g w.heap.size s2 ∧ Kept (fun _ => False) w W ∧ g < W.heap.size) ?_
            have hcd := HC.out wr _ ⟨hnm, hkw, hgw⟩ (Kept.refl _ wr).drew
            repeat (refine mix_w1 ?_; go_big_quiet_step (fail); refine wpQuiet_nil ?_)
            refine mix_load1 hcd rfl 9 (.tmp 107) rfl naST ⟨g, 2, none⟩ (stV s2) rfl (fun w' hw' => hw'.1.cell) ?_
            simp only [Act.put, List.setIfInBounds_toArray, List.set_cons_succ, List.set_cons_zero]
            repeat (refine mix_w1 ?_; go_big_quiet_step (fail); refine wpQuiet_nil ?_)
            refine mix_load1 hcd rfl 9 (.tmp 110) rfl naST ⟨w.heap.size + 1, 1, none⟩ (stV [98, 101]) rfl (fun w' hw' => hw'.1.nm.cell 1) ?_
            simp only [Act.put, List.setIfInBounds_toArray, List.set_cons_succ, List.set_cons_zero]
            repeat (refine mix_w1 ?_; go_big_quiet_step (fail); refine wpQuiet_nil ?_)
            refine mix_load1 hcd rfl 21 (.tmp 113) rfl naI32 ⟨w.heap.size + 1 + 1 + 1, 2, none⟩ (.int .i32 64) rfl (fun w' hw' => hw'.1.sz.cell 2) ?_
            simp only [Act.put, List.setIfInBounds_toArray, List.set_cons_succ, List.set_cons_zero]
            repeat (refine mix_w1 ?_; go_big_quiet_step (fail); refine wpQuiet_nil ?_)
            refine mix_k hcd fun Q' hQ' => ?_
            go_wp2_with fail
            refine (HN3.out _).mono ?_
            rintro e w6 ⟨rfl, hk6⟩
            have hc6 := HC.out _ w6 hcd hk6
            go_wp2_with fail
            refine hQ' _ _ hc6 ?_
            clear hQ' Q' hcd hk6 hnm hkw hgw
            repeat (refine mix_w1 ?_; go_big_quiet_step (fail); refine wpQuiet_nil ?_)
            refine mix_done ?_
            go_wp2_with fail
            first
            | (go_roundw
               case rel => exact ⟨3, rfl, by omega, by omega, hc6.1, hc6.2.1, hc6.2.2, (if_neg (by rw [HQ.out]; decide)).symm.trans HS1.out⟩
               case measure => (simp [intOf]))
            | skip
          refine wp_region_mix [.w, .w, .l, .w, .w, .w, .l, .w, .t, .t, .t] (by kernel_rfl) (by kernel_rfl) (fun W => Nm W g w.heap.size s2 ∧ Kept (fun _ => False) w W ∧ g < W.heap.size) ?_
          have hcd := HC.out w6 _ hc6 (Kept.refl _ w6).drew
          repeat (refine mix_w1 ?_; go_big_quiet_step (fail); refine wpQuiet_nil ?_)
          refine mix_load1 hcd rfl 5 (.tmp 120) rfl naU8q ⟨w.heap.size + 1 + 1, 1, none⟩ (.int .u8 220) rfl (fun w' hw' => hw'.1.op.cell 1) ?_
          simp only [Act.put, List.setIfInBounds_toArray, List.set_cons_succ, List.set_cons_zero]
          repeat (refine mix_w1 ?_; go_big_quiet_step (fail); refine wpQuiet_nil ?_)
          refine mix_load1 hcd rfl 21 (.tmp 124) rfl naI32 ⟨w.heap.size + 1 + 1 + 1, 2, none⟩ (.int .i32 64) rfl (fun w' hw' => hw'.1.sz.cell 2) ?_
          simp only [Act.put, List.setIfInBounds_toArray, List.set_cons_succ, List.set_cons_zero]
          repeat (refine mix_w1 ?_; go_big_quiet_step (fail); refine wpQuiet_nil ?_)
          repeat (refine mix_t fun Q' hQ' => ?_; go_wp2_with fail)
          refine mix_done ?_
          go_wp2_with fail
          have hR := (if_pos HQ.out).symm.trans HS1.out
          subst hR
          refine bodyPost_ret (v := .tuple #[.slice (some ⟨w6.heap.size, 0, none⟩) 1 1, .bool true]) (by simp [results, Tryz.results226, go_sem]) rfl ?_
          refine ⟨⟨_, rfl, fun l h => ?_, fun k hk => by have : w6.heap.size = k := Option.some.inj hk
                                                         have := hc6.2.1.size
                                                         omega⟩, hcd.2.1.alloc _⟩
          cases h
          exact inS_one _ ⟨220, d, 0, 0, 64⟩ rfl
    · go_wp2_with fail
      go_loopw [19] (fun kv wr => ∃ k : Int, kv = .int .i64 k ∧ 0 ≤ k ∧ k ≤ 3 ∧ Nm wr g w.heap.size s2 ∧ Kept (fun _ => False) w wr ∧ g < wr.heap.size ∧ swU s2 d (3 - k.toNat) = R) (fun kv _ => 3 - (intOf kv).toNat)
      case atStart => exact ⟨0, rfl, by omega, by omega, hnm, hkw, hgw, HS.out⟩
      case round =>
        clear HS hkw hnm hgw
        obtain ⟨k, rfl, hk0, hk3, hnm, hkw, hgw, hsw⟩ := hrel
        have hk4 : k = 0 ∨ k = 1 ∨ k = 2 ∨ k = 3 := by omega
        clear hk0 hk3
        have HS := Lib.hid hsw
        clear hsw
        rcases hk4 with rfl | rfl | rfl | rfl
        case inr.inr.inr =>
          go_wp2_with fail
          go_roundw
          case rel => exact ⟨3, rfl, by omega, by omega, hnm, hkw, hgw, HS.out⟩
          case measure => (simp [intOf])
        · have HS1 : Hid ((if (s2 == [115, 119, 97, 112, 49, 54]) = true then some [(⟨215, d, 0, 0, 16⟩ : In)] else swU s2 d 2) = R) := Lib.hid HS.out
          clear HS
          have hadd : ∀ W, (Op.stringOp .add ⟨#[115, 119, 97, 112]⟩ ⟨#[49, 54]⟩).run Tryz.prog W = .ok (stV [115, 119, 97, 112, 49, 54]) W := fun W => run_string_add_lists (P := Tryz.prog) (w := W) [115, 119, 97, 112] [49, 54] (by simp) (by simp)
          have HC := Lib.hid (fun W W' (h : Nm W g w.heap.size s2 ∧ Kept (fun _ => False) w W ∧ g < W.heap.size) (hk : Kept (fun _ => False) W W') => (⟨h.1.kept h.2.2 hk, h.2.1.trans hk (fun _ _ h => h), Nat.lt_of_lt_of_le h.2.2 hk.size⟩ : Nm W' g w.heap.size s2 ∧ Kept (fun _ => False) w W' ∧ g < W'.heap.size))
          cases q : (s2 == [115, 119, 97, 112, 49, 54])
          all_goals
            have HQ : Hid ((s2 == [115, 119, 97, 112, 49, 54]) = _) := Lib.hid q
            go_wp2_with fail
            refine wp_region_mix [.w, .w, .l, .w, .w, .l, .w, .w, .l, .w, .k, .w, .w] (by kernel_rfl) (by kernel_rfl) (fun W => Nm W g w.heap.size s2 ∧ Kept (fun _ => False) w W ∧ g < W.heap.size) ?_
            have hcd := HC.out wr _ ⟨hnm, hkw, hgw⟩ (Kept.refl _ wr).drew
            repeat (refine mix_w1 ?_; go_big_quiet_step (fail); refine wpQuiet_nil ?_)
            refine mix_load1 hcd rfl 9 (.tmp 107) rfl naST ⟨g, 2, none⟩ (stV s2) rfl (fun w' hw' => hw'.1.cell) ?_
            simp only [Act.put, List.setIfInBounds_toArray, List.set_cons_succ, List.set_cons_zero]
            repeat (refine mix_w1 ?_; go_big_quiet_step (fail); refine wpQuiet_nil ?_)
            refine mix_load1 hcd rfl 9 (.tmp 110) rfl naST ⟨w.heap.size + 1, 2, none⟩ (stV [115, 119, 97, 112]) rfl (fun w' hw' => hw'.1.nm.cell 2) ?_
            simp only [Act.put, List.setIfInBounds_toArray, List.set_cons_succ, List.set_cons_zero]
            repeat (refine mix_w1 ?_; go_big_quiet_step (fail); refine wpQuiet_nil ?_)
            refine mix_load1 hcd rfl 21 (.tmp 113) rfl naI32 ⟨w.heap.size + 1 + 1 + 1, 0, none⟩ (.int .i32 16) rfl (fun w' hw' => hw'.1.sz.cell 0) ?_
            simp only [Act.put, List.setIfInBounds_toArray, List.set_cons_succ, List.set_cons_zero]
            repeat (refine mix_w1 ?_; go_big_quiet_step (fail); refine wpQuiet_nil ?_)
            refine mix_k hcd fun Q' hQ' => ?_
            go_wp2_with fail
            refine (HN1.out _).mono ?_
            rintro e w6 ⟨rfl, hk6⟩
            have hc6 := HC.out _ w6 hcd hk6
            go_wp2_with fail
            refine hQ' _ _ hc6 ?_
            clear hQ' Q' hcd hk6 hnm hkw hgw
            repeat (refine mix_w1 ?_; go_big_quiet_step (fail); refine wpQuiet_nil ?_)
            refine mix_done ?_
            go_wp2_with fail
            first
            | (go_roundw
               case rel => exact ⟨1, rfl, by omega, by omega, hc6.1, hc6.2.1, hc6.2.2, (if_neg (by rw [HQ.out]; decide)).symm.trans HS1.out⟩
               case measure => (simp [intOf]))
            | skip
          refine wp_region_mix [.w, .w, .l, .w, .w, .w, .l, .w, .t, .t, .t] (by kernel_rfl) (by kernel_rfl) (fun W => Nm W g w.heap.size s2 ∧ Kept (fun _ => False) w W ∧ g < W.heap.size) ?_
          have hcd := HC.out w6 _ hc6 (Kept.refl _ w6).drew
          repeat (refine mix_w1 ?_; go_big_quiet_step (fail); refine wpQuiet_nil ?_)
          refine mix_load1 hcd rfl 5 (.tmp 120) rfl naU8q ⟨w.heap.size + 1 + 1, 2, none⟩ (.int .u8 215) rfl (fun w' hw' => hw'.1.op.cell 2) ?_
          simp only [Act.put, List.setIfInBounds_toArray, List.set_cons_succ, List.set_cons_zero]
          repeat (refine mix_w1 ?_; go_big_quiet_step (fail); refine wpQuiet_nil ?_)
          refine mix_load1 hcd rfl 21 (.tmp 124) rfl naI32 ⟨w.heap.size + 1 + 1 + 1, 0, none⟩ (.int .i32 16) rfl (fun w' hw' => hw'.1.sz.cell 0) ?_
          simp only [Act.put, List.setIfInBounds_toArray, List.set_cons_succ, List.set_cons_zero]
          repeat (refine mix_w1 ?_; go_big_quiet_step (fail); refine wpQuiet_nil ?_)
          repeat (refine mix_t fun Q' hQ' => ?_; go_wp2_with fail)
          refine mix_done ?_
          go_wp2_with fail
          have hR := (if_pos HQ.out).symm.trans HS1.out
          subst hR
          refine bodyPost_ret (v := .tuple #[.slice (some ⟨w6.heap.size, 0, none⟩) 1 1, .bool true]) (by simp [results, Tryz.results226, go_sem]) rfl ?_
          refine ⟨⟨_, rfl, fun l h => ?_, fun k hk => by have : w6.heap.size = k := Option.some.inj hk
                                                         have := hc6.2.1.size
                                                         omega⟩, hcd.2.1.alloc _⟩
          cases h
          exact inS_one _ ⟨215, d, 0, 0, 16⟩ rfl
        · have HS1 : Hid ((if (s2 == [115, 119, 97, 112, 51, 50]) = true then some [(⟨215, d, 0, 0, 32⟩ : In)] else swU s2 d 1) = R) := Lib.hid HS.out
          clear HS
          have hadd : ∀ W, (Op.stringOp .add ⟨#[115, 119, 97, 112]⟩ ⟨#[51, 50]⟩).run Tryz.prog W = .ok (stV [115, 119, 97, 112, 51, 50]) W := fun W => run_string_add_lists (P := Tryz.prog) (w := W) [115, 119, 97, 112] [51, 50] (by simp) (by simp)
          have HC := Lib.hid (fun W W' (h : Nm W g w.heap.size s2 ∧ Kept (fun _ => False) w W ∧ g < W.heap.size) (hk : Kept (fun _ => False) W W') => (⟨h.1.kept h.2.2 hk, h.2.1.trans hk (fun _ _ h => h), Nat.lt_of_lt_of_le h.2.2 hk.size⟩ : Nm W' g w.heap.size s2 ∧ Kept (fun _ => False) w W' ∧ g < W'.heap.size))
          cases q : (s2 == [115, 119, 97, 112, 51, 50])
          all_goals
            have HQ : Hid ((s2 == [115, 119, 97, 112, 51, 50]) = _) := Lib.hid q
            go_wp2_with fail
            refine wp_region_mix [.w, .w, .l, .w, .w, .l, .w, .w, .l, .w, .k, .w, .w] (by kernel_rfl) (by kernel_rfl) (fun W => Nm W g w.heap.size s2 ∧ Kept (fun _ => False) w W ∧ g < W.heap.size) ?_
            have hcd := HC.out wr _ ⟨hnm, hkw, hgw⟩ (Kept.refl _ wr).drew
            repeat (refine mix_w1 ?_; go_big_quiet_step (fail); refine wpQuiet_nil ?_)
            refine mix_load1 hcd rfl 9 (.tmp 107) rfl naST ⟨g, 2, none⟩ (stV s2) rfl (fun w' hw' => hw'.1.cell) ?_
            simp only [Act.put, List.setIfInBounds_toArray, List.set_cons_succ, List.set_cons_zero]
            repeat (refine mix_w1 ?_; go_big_quiet_step (fail); refine wpQuiet_nil ?_)
            refine mix_load1 hcd rfl 9 (.tmp 110) rfl naST ⟨w.heap.size + 1, 2, none⟩ (stV [115, 119, 97, 112]) rfl (fun w' hw' => hw'.1.nm.cell 2) ?_
            simp only [Act.put, List.setIfInBounds_toArray, List.set_cons_succ, List.set_cons_zero]
            repeat (refine mix_w1 ?_; go_big_quiet_step (fail); refine wpQuiet_nil ?_)
            refine mix_load1 hcd rfl 21 (.tmp 113) rfl naI32 ⟨w.heap.size + 1 + 1 + 1, 1, none⟩ (.int .i32 32) rfl (fun w' hw' => hw'.1.sz.cell 1) ?_
            simp only [Act.put, List.setIfInBounds_toArray, List.set_cons_succ, List.set_cons_zero]
            repeat (refine mix_w1 ?_; go_big_quiet_step (fail); refine wpQuiet_nil ?_)
            refine mix_k hcd fun Q' hQ' => ?_
            go_wp2_with fail
            refine (HN2.out _).mono ?_
            rintro e w6 ⟨rfl, hk6⟩
            have hc6 := HC.out _ w6 hcd hk6
            go_wp2_with fail
            refine hQ' _ _ hc6 ?_
            clear hQ' Q' hcd hk6 hnm hkw hgw
            repeat (refine mix_w1 ?_; go_big_quiet_step (fail); refine wpQuiet_nil ?_)
            refine mix_done ?_
            go_wp2_with fail
            first
            | (go_roundw
               case rel => exact ⟨2, rfl, by omega, by omega, hc6.1, hc6.2.1, hc6.2.2, (if_neg (by rw [HQ.out]; decide)).symm.trans HS1.out⟩
               case measure => (simp [intOf]))
            | skip
          refine wp_region_mix [.w, .w, .l, .w, .w, .w, .l, .w, .t, .t, .t] (by kernel_rfl) (by kernel_rfl) (fun W => Nm W g w.heap.size s2 ∧ Kept (fun _ => False) w W ∧ g < W.heap.size) ?_
          have hcd := HC.out w6 _ hc6 (Kept.refl _ w6).drew
          repeat (refine mix_w1 ?_; go_big_quiet_step (fail); refine wpQuiet_nil ?_)
          refine mix_load1 hcd rfl 5 (.tmp 120) rfl naU8q ⟨w.heap.size + 1 + 1, 2, none⟩ (.int .u8 215) rfl (fun w' hw' => hw'.1.op.cell 2) ?_
          simp only [Act.put, List.setIfInBounds_toArray, List.set_cons_succ, List.set_cons_zero]
          repeat (refine mix_w1 ?_; go_big_quiet_step (fail); refine wpQuiet_nil ?_)
          refine mix_load1 hcd rfl 21 (.tmp 124) rfl naI32 ⟨w.heap.size + 1 + 1 + 1, 1, none⟩ (.int .i32 32) rfl (fun w' hw' => hw'.1.sz.cell 1) ?_
          simp only [Act.put, List.setIfInBounds_toArray, List.set_cons_succ, List.set_cons_zero]
          repeat (refine mix_w1 ?_; go_big_quiet_step (fail); refine wpQuiet_nil ?_)
          repeat (refine mix_t fun Q' hQ' => ?_; go_wp2_with fail)
          refine mix_done ?_
          go_wp2_with fail
          have hR := (if_pos HQ.out).symm.trans HS1.out
          subst hR
          refine bodyPost_ret (v := .tuple #[.slice (some ⟨w6.heap.size, 0, none⟩) 1 1, .bool true]) (by simp [results, Tryz.results226, go_sem]) rfl ?_
          refine ⟨⟨_, rfl, fun l h => ?_, fun k hk => by have : w6.heap.size = k := Option.some.inj hk
                                                         have := hc6.2.1.size
                                                         omega⟩, hcd.2.1.alloc _⟩
          cases h
          exact inS_one _ ⟨215, d, 0, 0, 32⟩ rfl
        · have HS1 : Hid ((if (s2 == [115, 119, 97, 112, 54, 52]) = true then some [(⟨215, d, 0, 0, 64⟩ : In)] else swU s2 d 0) = R) := Lib.hid HS.out
          clear HS
          have hadd : ∀ W, (Op.stringOp .add ⟨#[115, 119, 97, 112]⟩ ⟨#[54, 52]⟩).run Tryz.prog W = .ok (stV [115, 119, 97, 112, 54, 52]) W := fun W => run_string_add_lists (P := Tryz.prog) (w := W) [115, 119, 97, 112] [54, 52] (by simp) (by simp)
          have HC := Lib.hid (fun W W' (h : Nm W g w.heap.size s2 ∧ Kept (fun _ => False) w W ∧ g < W.heap.size) (hk : Kept (fun _ => False) W W') => (⟨h.1.kept h.2.2 hk, h.2.1.trans hk (fun _ _ h => h), Nat.lt_of_lt_of_le h.2.2 hk.size⟩ : Nm W' g w.heap.size s2 ∧ Kept (fun _ => False) w W' ∧ g < W'.heap.size))
          cases q : (s2 == [115, 119, 97, 112, 54, 52])
          all_goals
            have HQ : Hid ((s2 == [115, 119, 97, 112, 54, 52]) = _) := Lib.hid q
            go_wp2_with fail
            refine wp_region_mix [.w, .w, .l, .w, .w, .l, .w, .w, .l, .w, .k, .w, .w] (by kernel_rfl) (by kernel_rfl) (fun W => Nm W g w.heap.size s2 ∧ Kept (fun _ => False) w W ∧ g < W.heap.size) ?_
            have hcd := HC.out wr _ ⟨hnm, hkw, hgw⟩ (Kept.refl _ wr).drew
            repeat (refine mix_w1 ?_; go_big_quiet_step (fail); refine wpQuiet_nil ?_)
            refine mix_load1 hcd rfl 9 (.tmp 107) rfl naST ⟨g, 2, none⟩ (stV s2) rfl (fun w' hw' => hw'.1.cell) ?_
            simp only [Act.put, List.setIfInBounds_toArray, List.set_cons_succ, List.set_cons_zero]
            repeat (refine mix_w1 ?_; go_big_quiet_step (fail); refine wpQuiet_nil ?_)
            refine mix_load1 hcd rfl 9 (.tmp 110) rfl naST ⟨w.heap.size + 1, 2, none⟩ (stV [115, 119, 97, 112]) rfl (fun w' hw' => hw'.1.nm.cell 2) ?_
            simp only [Act.put, List.setIfInBounds_toArray, List.set_cons_succ, List.set_cons_zero]
            repeat (refine mix_w1 ?_; go_big_quiet_step (fail); refine wpQuiet_nil ?_)
            refine mix_load1 hcd rfl 21 (.tmp 113) rfl naI32 ⟨w.heap.size + 1 + 1 + 1, 2, none⟩ (.int .i32 64) rfl (fun w' hw' => hw'.1.sz.cell 2) ?_
            simp only [Act.put, List.setIfInBounds_toArray, List.set_cons_succ, List.set_cons_zero]
            repeat (refine mix_w1 ?_; go_big_quiet_step (fail); refine wpQuiet_nil ?_)
            refine mix_k hcd fun Q' hQ' => ?_
            go_wp2_with fail
            refine (HN3.out _).mono ?_
            rintro e w6 ⟨rfl, hk6⟩
            have hc6 := HC.out _ w6 hcd hk6
            go_wp2_with fail
            refine hQ' _ _ hc6 ?_
            clear hQ' Q' hcd hk6 hnm hkw hgw
            repeat (refine mix_w1 ?_; go_big_quiet_step (fail); refine wpQuiet_nil ?_)
            refine mix_done ?_
            go_wp2_with fail
            first
            | (go_roundw
               case rel => exact ⟨3, rfl, by omega, by omega, hc6.1, hc6.2.1, hc6.2.2, (if_neg (by rw [HQ.out]; decide)).symm.trans HS1.out⟩
               case measure => (simp [intOf]))
            | skip
          refine wp_region_mix [.w, .w, .l, .w, .w, .w, .l, .w, .t, .t, .t] (by kernel_rfl) (by kernel_rfl) (fun W => Nm W g w.heap.size s2 ∧ Kept (fun _ => False) w W ∧ g < W.heap.size) ?_
          have hcd := HC.out w6 _ hc6 (Kept.refl _ w6).drew
          repeat (refine mix_w1 ?_; go_big_quiet_step (fail); refine wpQuiet_nil ?_)
          refine mix_load1 hcd rfl 5 (.tmp 120) rfl naU8q ⟨w.heap.size + 1 + 1, 2, none⟩ (.int .u8 215) rfl (fun w' hw' => hw'.1.op.cell 2) ?_
          simp only [Act.put, List.setIfInBounds_toArray, List.set_cons_succ, List.set_cons_zero]
          repeat (refine mix_w1 ?_; go_big_quiet_step (fail); refine wpQuiet_nil ?_)
          refine mix_load1 hcd rfl 21 (.tmp 124) rfl naI32 ⟨w.heap.size + 1 + 1 + 1, 2, none⟩ (.int .i32 64) rfl (fun w' hw' => hw'.1.sz.cell 2) ?_
          simp only [Act.put, List.setIfInBounds_toArray, List.set_cons_succ, List.set_cons_zero]
          repeat (refine mix_w1 ?_; go_big_quiet_step (fail); refine wpQuiet_nil ?_)
          repeat (refine mix_t fun Q' hQ' => ?_; go_wp2_with fail)
          refine mix_done ?_
          go_wp2_with fail
          have hR := (if_pos HQ.out).symm.trans HS1.out
          subst hR
          refine bodyPost_ret (v := .tuple #[.slice (some ⟨w6.heap.size, 0, none⟩) 1 1, .bool true]) (by simp [results, Tryz.results226, go_sem]) rfl ?_
          refine ⟨⟨_, rfl, fun l h => ?_, fun k hk => by have : w6.heap.size = k := Option.some.inj hk
                                                         have := hc6.2.1.size
                                                         omega⟩, hcd.2.1.alloc _⟩
          cases h
          exact inS_one _ ⟨215, d, 0, 0, 64⟩ rfl
set_option maxHeartbeats 8000000 in
set_option maxRecDepth 100000 in
theorem special_any (s0 s1 s2 s3 : List UInt8) (g cap : Nat) (d : Int) (w : World) (h : Strs w (.slice (some ⟨g, 0, none⟩) 4 cap) [s0, s1, s2, s3]) (h0 : s0.length ≤ 1000000) (h2 : s2.length ≤ 1000000) (h3 : s3.length ≤ 1000000) :
    Calls Tryz.prog 226 #[.slice (some ⟨g, 0, none⟩) 4 cap, .int .u8 d, .bool true] w fun e w' => (∃ v, e = .returned (.tuple #[v, .bool (specialS s0 s2 s3 d).isSome]) ∧ (∀ l, specialS s0 s2 s3 d = some l → InS w' v l) ∧ ∀ k, v.ownBlock = some k → w.heap.size ≤ k) ∧ Kept (fun _ => False) w w' := by
  have c0 := Strs.cell h (i := 0) (x := s0) rfl
  have c2 := Strs.cell h (i := 2) (x := s2) rfl
  have c3 := Strs.cell h (i := 3) (x := s3) rfl
  have hlt := Sl.lt h g rfl
  have HP := Lib.hid (fun W => plain_any s2 W h2)
  have HI := Lib.hid (fun W => imm_any s3 W h3)
  have HO := Lib.hid (fun W => off_any s3 2147483647 W h3 (by omega))
  have HOR : Hid (∀ v, offS s3 2147483647 = some v → -2147483648 ≤ v ∧ v ≤ 2147483647) := Lib.hid (fun v hv => by have := offS_range hv (by omega); omega)
  obtain ⟨R, hR⟩ : ∃ R, specialS s0 s2 s3 d = R := ⟨_, rfl⟩
  rw [hR]
  unfold specialS at hR
  have hk0 : Kept (fun _ => False) w (w.alloc (.cells #[.int .u8 24, .int .u8 d, .int .u8 0, .int .i16 0, .int .i32 0] 75)) := (Kept.refl _ w).alloc _
  cases q1 : (s3 == [108, 108])
  case true =>
    rw [if_pos q1] at hR
    generalize hpp : plainS s2 = pl at *
    have hplt : ∀ n, pl = some n → n < 18446744073709551616 := fun n hn => plainS_lt (hpp.trans hn)
    clear hpp HI HO HOR
    cases pl with
    | none =>
      replace HP : Hid (∀ W, Calls Tryz.prog 225 #[stV s2] W fun e w' => e = .returned (.tuple #[.int .u64 0, .bool false]) ∧ W = w') := HP
      have hR : none = R := hR
      subst hR
      go_enter Tryz.func226, Tryz.ntmps226
      go_wp2_with fail
      refine (HP.out _).mono ?_
      rintro e w1 ⟨rfl, rfl⟩
      go_wp2_with fail
      refine bodyPost_ret (v := .tuple #[.slice (some ⟨w.heap.size + 1, 0, none⟩) 2 2, .bool false]) (by simp [results, Tryz.results226, go_sem]) rfl ?_
      exact ⟨⟨_, rfl, fun l h => by (cases h), fun k hk => own_two hk⟩, ((Kept.refl _ w).alloc _).alloc _⟩
    | some n =>
      replace HP : Hid (∀ W, Calls Tryz.prog 225 #[stV s2] W fun e w' => e = .returned (.tuple #[.int .u64 (n : Int), .bool true]) ∧ W = w') := HP
      have hn := hplt n rfl
      replace hR : some [(⟨24, d, 0, 0, low32 n⟩ : In), ⟨0, 0, 0, 0, high32 n⟩] = R := hR
      subst hR
      go_enter Tryz.func226, Tryz.ntmps226
      go_wp2_with fail
      refine (HP.out _).mono ?_
      rintro e w1 ⟨rfl, rfl⟩
      go_wp2_with fail
      refine bodyPost_ret (v := .tuple #[.slice (some ⟨w.heap.size + 1, 0, none⟩) 2 2, .bool true]) (by simp [results, Tryz.results226, go_sem]) rfl ?_
      refine ⟨⟨_, rfl, fun l h => ?_, fun k hk => own_two hk⟩, ((Kept.refl _ w).alloc _).alloc _⟩
      cases h
      exact inS_two _ ⟨24, d, 0, 0, low32 n⟩ ⟨0, 0, 0, 0, high32 n⟩ (by simp)
  case false =>
  rw [if_neg (by rw [q1]; decide)] at hR
  cases q2 : (s2 == [109, 97, 112])
  case true =>
    rw [if_pos q2] at hR
    clear HP HO HOR
    generalize hpp : immS s3 = pl at *
    clear hpp
    cases pl with
    | none =>
      have hR : none = R := hR
      subst hR
      go_enter Tryz.func226, Tryz.ntmps226
      go_wp2_with fail
      refine (HI.out _).mono ?_
      rintro e w1 ⟨⟨x, rfl, hx⟩, rfl⟩
      clear hx
      go_wp2_with fail
      refine bodyPost_ret (v := .tuple #[.slice (some ⟨w.heap.size + 1, 0, none⟩) 2 2, .bool false]) (by simp [results, Tryz.results226, go_sem]) rfl ?_
      exact ⟨⟨_, rfl, fun l h => by (cases h), fun k hk => own_two hk⟩, ((Kept.refl _ w).alloc _).alloc _⟩
    | some n =>
      replace hR : some [(⟨24, d, 1, 0, n⟩ : In), zeroI] = R := hR
      subst hR
      go_enter Tryz.func226, Tryz.ntmps226
      go_wp2_with fail
      refine (HI.out _).mono ?_
      rintro e w1 ⟨⟨x, rfl, hx⟩, rfl⟩
      obtain rfl := hx n rfl
      clear hx
      go_wp2_with fail
      refine bodyPost_ret (v := .tuple #[.slice (some ⟨w.heap.size + 1, 0, none⟩) 2 2, .bool true]) (by simp [results, Tryz.results226, go_sem]) rfl ?_
      refine ⟨⟨_, rfl, fun l h => ?_, fun k hk => own_two hk⟩, ((Kept.refl _ w).alloc _).alloc _⟩
      cases h
      exact inS_two _ ⟨24, d, 1, 0, x⟩ zeroI (by simp)
  case false =>
  rw [if_neg (by rw [q2]; decide)] at hR
  cases q3 : (s2 == [102, 117, 110, 99])
  case true =>
    rw [if_pos q3] at hR
    clear HP HI
    generalize hpp : offS s3 2147483647 = pl at *
    clear hpp
    cases pl with
    | none =>
      have hR : none = R := hR
      subst hR
      go_enter Tryz.func226, Tryz.ntmps226
      go_wp2_with fail
      refine (HO.out _).mono ?_
      rintro e w1 ⟨⟨x, rfl, hx, hx1, hx2⟩, rfl⟩
      clear hx
      go_wp2_with fail
      refine bodyPost_ret (v := .tuple #[.slice (some ⟨w.heap.size + 1, 0, none⟩) 2 2, .bool false]) (by simp [results, Tryz.results226, go_sem]) rfl ?_
      exact ⟨⟨_, rfl, fun l h => by (cases h), fun k hk => own_two hk⟩, ((Kept.refl _ w).alloc _).alloc _⟩
    | some n =>
      replace hR : some [(⟨24, d, 4, 0, n⟩ : In), zeroI] = R := hR
      subst hR
      go_enter Tryz.func226, Tryz.ntmps226
      go_wp2_with fail
      refine (HO.out _).mono ?_
      rintro e w1 ⟨⟨x, rfl, hx, hx1, hx2⟩, rfl⟩
      obtain rfl := hx n rfl
      clear hx
      have hxr := HOR.out x rfl
      go_wp2_with fail
      refine bodyPost_ret (v := .tuple #[.slice (some ⟨w.heap.size + 1, 0, none⟩) 2 2, .bool true]) (by simp [results, Tryz.results226, go_sem]) rfl ?_
      refine ⟨⟨_, rfl, fun l h => ?_, fun k hk => own_two hk⟩, ((Kept.refl _ w).alloc _).alloc _⟩
      cases h
      exact inS_two _ ⟨24, d, 4, 0, x⟩ zeroI (by simp)
  case false =>
  rw [if_neg (by rw [q3]; decide)] at hR
  cases q4 : (s3 == s0)
  case false =>
    rw [if_pos q4] at hR
    subst hR
    have q4n : (!(s3 == s0)) = true := by rw [q4]; rfl
    clear HP HI HO HOR
    go_enter Tryz.func226, Tryz.ntmps226
    go_wp2_with fail
    refine wp_region_mix0 [.w, .w, .l, .w, .w, .l, .w] (by kernel_rfl) (by kernel_rfl) ?_
    repeat (first
      | (refine mix_w1 ?_; go_big_quiet_step (fail); refine wpQuiet_nil ?_)
      | (refine mix_l1 rfl ?_; go_big_quiet_step (fail); refine wpQuiet_nil ?_))
    refine mix_done ?_
    go_wp2_with fail
    refine bodyPost_ret (v := .tuple #[.slice none 0 0, .bool false]) (by simp [results, Tryz.results226, go_sem]) rfl ?_
    exact ⟨⟨_, rfl, fun l h => by (cases h), fun k hk => own_none hk⟩, ((Kept.refl _ w).alloc _).drew⟩
  case true =>
  rw [if_neg (by rw [q4]; decide)] at hR
  exact special_names s0 s2 s3 g cap d R w c0 c2 c3 hlt q1 q2 q3 q4 hR

end Go.Proofs.YtdchmelgaljpfaaGreat

set_option linter.unusedSimpArgs false
set_option linter.unusedVariables false
namespace Go.Proofs.YtdchmelgaljpfaaGreat
open Go.RowKit

/-! ### 'if rD SIGN s goto +O' -/
/-- what a reader of a line tells -/
def SlO (w : World) (R : Option (List In)) (e : Ending) (w' : World) : Prop :=
  (∃ v, e = .returned (.tuple #[v, .bool R.isSome]) ∧ (∀ l, R = some l → InS w' v l) ∧ ∀ k, v.ownBlock = some k → w.heap.size ≤ k) ∧ Kept (fun _ => False) w w'
/-- the first of these signs that s is, from i on -/
def sgU (sg : Nat → List UInt8) (s : List UInt8) : Nat → Nat → Option Nat
  | _, 0 => none
  | i, n + 1 => if (sg i == s) = false then sgU sg s (i + 1) n else if (s == []) = true then sgU sg s (i + 1) n else some i
def orR (op a o : Int) (r : Option Nat) (v : Option Int) : Option (List In) := match r, v with
  | some b, _ => some [⟨op + 8, a, b, o, 0⟩]
  | none, some v => some [⟨op, a, 0, o, v⟩]
  | none, none => none
def cmpQ (op o : Int) (a : Option Nat) (r : Option Nat) (v : Option Int) : Option (List In) := match a with
  | none => none
  | some a => orR op a o r v
def cmpC (cls letter : Int) (s1 s3 : List UInt8) (o : Int) (i : Nat) : Option (List In) := cmpQ (16 * (i : Int) + cls) o (regS s1 letter) (regS s3 letter) (immS s3)
def cmpAt (s1 s3 : List UInt8) (o : Int) (i : Nat) : Option (List In) := if (s1 == []) = true then cmpC 5 114 s1 s3 o i else if (ch s1 0 == 119) = true then cmpC 6 119 s1 s3 o i else cmpC 5 114 s1 s3 o i
def cmpF (s1 s3 : List UInt8) (o : Int) (i : Option Nat) : Option (List In) := match i with
  | none => none
  | some i => cmpAt s1 s3 o i
def cmpO (s1 s2 s3 : List UInt8) (o : Option Int) : Option (List In) := match o with
  | none => none
  | some o => cmpF s1 s3 o (sgU cmpS s2 0 14)
def compareS (s1 s2 s3 s5 : List UInt8) : Option (List In) := cmpO s1 s2 s3 (offS s5 32767)
theorem own_one {a n k : Nat} (ha : a ≤ n) (h : (Value.slice (some ⟨n + 1, 0, none⟩) 1 1).ownBlock = some k) : a ≤ k := by
  have : n + 1 = k := Option.some.inj h
  omega
theorem regS_le {s : List UInt8} {l : Int} {v : Nat} (h : regS s l = some v) : v ≤ 10 := by
  unfold regS at h
  split at h
  · cases h
  · split at h
    · cases h
    · unfold regP at h
      split at h
      · cases h
      · split at h
        · cases h
          assumption
        · cases h
set_option maxHeartbeats 8000000 in
set_option maxRecDepth 100000 in
theorem compare_any (s0 s1 s2 s3 s4 s5 : List UInt8) (g cap : Nat) (w : World) (h : Strs w (.slice (some ⟨g, 0, none⟩) 6 cap) [s0, s1, s2, s3, s4, s5]) (h1 : s1.length ≤ 1000000) (h3 : s3.length ≤ 1000000) (h5 : s5.length ≤ 1000000) :
    Calls Tryz.prog 171 #[.slice (some ⟨g, 0, none⟩) 6 cap] w fun e w' => SlO w (compareS s1 s2 s3 s5) e w' := by
  have c5 := Strs.cell h (i := 5) (x := s5) rfl
  have hlt := Sl.lt h g rfl
  have HN := Lib.hid (fun k hk W => cmpSign_any k hk W)
  have HC : Hid (∀ W W', Strs W (.slice (some ⟨g, 0, none⟩) 6 cap) [s0, s1, s2, s3, s4, s5] ∧ Kept (fun _ => False) w W → Kept (fun _ => False) W W' → Strs W' (.slice (some ⟨g, 0, none⟩) 6 cap) [s0, s1, s2, s3, s4, s5] ∧ Kept (fun _ => False) w W') := Lib.hid (fun W W' h hk => ⟨Sl.kept hk h.1 fun k hk h => h, h.2.trans hk (fun _ _ h => h)⟩)
  obtain ⟨R, hR⟩ : ∃ R, compareS s1 s2 s3 s5 = R := ⟨_, rfl⟩
  rw [hR]
  unfold compareS at hR
  have HO := Lib.hid (fun W => off_any s5 32767 W h5 (by omega))
  have HOR : Hid (∀ v, offS s5 32767 = some v → -32768 ≤ v ∧ v ≤ 32767) := Lib.hid (fun v hv => by have := offS_range hv (by omega); omega)
  generalize offS s5 32767 = oo at *
  have HH := Lib.hid h
  clear h
  cases oo with
  | none =>
    have hR : none = R := hR
    subst hR
    go_enter Tryz.func171, Tryz.ntmps171
    go_wp2_with fail
    refine (HO.out _).mono ?_
    rintro e w1 ⟨⟨x, rfl, hx, hx1, hx2⟩, rfl⟩
    clear hx
    go_wp2_with fail
    refine bodyPost_ret (v := .tuple #[.slice none 0 0, .bool false]) (by simp [results, Tryz.results171, go_sem]) rfl ?_
    exact ⟨⟨_, rfl, fun l h => by (cases h), fun k hk => own_none hk⟩, Kept.refl _ w⟩
  | some o =>
  have hR : cmpF s1 s3 o (sgU cmpS s2 0 14) = R := hR
  have ho := HOR.out o rfl
  go_enter Tryz.func171, Tryz.ntmps171
  go_wp2_with fail
  refine (HO.out _).mono ?_
  rintro e w1 ⟨⟨x, rfl, hx, hx1, hx2⟩, rfl⟩
  obtain rfl := hx o rfl
  clear hx HO HOR c5
  have HR := Lib.hid hR
  clear hR
  go_wp2_with fail
  go_loopw [6] (fun iv wr => ∃ i : Nat, iv = .int .i64 i ∧ i ≤ 14 ∧ (Strs wr (.slice (some ⟨g, 0, none⟩) 6 cap) [s0, s1, s2, s3, s4, s5] ∧ Kept (fun _ => False) w wr) ∧ cmpF s1 s3 x (sgU cmpS s2 i (14 - i)) = R) (fun iv _ => 14 - (intOf iv).toNat)
  case atStart => exact ⟨0, rfl, by omega, ⟨HH.out, Kept.refl _ w⟩, HR.out⟩
  case round =>
    obtain ⟨i, rfl, hi, hw, hr⟩ := hrel
    clear HH HR hlt
    have HW := Lib.hid hw
    have HS := Lib.hid hr
    clear hw hr
    by_cases hi14 : i = 14
    · subst hi14
      have hR : none = R := HS.out
      subst hR
      go_wp2_with fail
      refine bodyPost_ret (v := .tuple #[.slice none 0 0, .bool false]) (by simp [results, Tryz.results171, go_sem]) rfl ?_
      exact ⟨⟨_, rfl, fun l h => by (cases h), fun k hk => own_none hk⟩, HW.out.2⟩
    have hi13 : i ≤ 13 := by omega
    have hd13 : decide ((i : Int) ≤ 13) = true := decide_eq_true (by omega)
    clear hi14
    have HS1 : Hid (cmpF s1 s3 x (if (cmpS i == s2) = false then sgU cmpS s2 (i + 1) (14 - (i + 1)) else if (s2 == []) = true then sgU cmpS s2 (i + 1) (14 - (i + 1)) else some i) = R) := Lib.hid (by
      have h14 : 14 - i = (14 - (i + 1)) + 1 := by omega
      have := HS.out
      rw [h14] at this
      exact this)
    clear HS
    cases q : (cmpS i == s2)
    case false =>
      have hnx : Hid (cmpF s1 s3 x (sgU cmpS s2 (i + 1) (14 - (i + 1))) = R) := Lib.hid (by have := HS1.out; rwa [if_pos q] at this)
      have HQ := Lib.hid q
      have hqn : (!(cmpS i == s2)) = true := by rw [q]; rfl
      clear HS1
      go_wp2_with fail
      refine wp_region_mix [.w, .k, .w, .w, .l, .w, .w, .w, .w, .l, .w, .w] (by kernel_rfl) (by kernel_rfl) (fun W => Strs W (.slice (some ⟨g, 0, none⟩) 6 cap) [s0, s1, s2, s3, s4, s5] ∧ Kept (fun _ => False) w W) ?_
      have hcd := HC.out wr _ HW.out (Kept.refl _ wr).drew
      repeat (refine mix_w1 ?_; go_big_quiet_step (fail); refine wpQuiet_nil ?_)
      refine mix_k hcd fun Q' hQ' => ?_
      go_wp2_with fail
      refine (HN.out i hi13 _).mono ?_
      rintro e w6 ⟨rfl, hk6⟩
      have hc6 := HC.out _ w6 hcd hk6
      go_wp2_with fail
      refine hQ' _ _ hc6 ?_
      clear hQ' Q' hcd hk6
      repeat (refine mix_w1 ?_; go_big_quiet_step (fail); refine wpQuiet_nil ?_)
      refine mix_load1 hc6 rfl 9 (.tmp 30) rfl naST ⟨g, 2, none⟩ (stV s2) rfl (fun w' hw' => Strs.cell hw'.1 (i := 2) rfl) ?_
      simp only [Act.put, List.setIfInBounds_toArray, List.set_cons_succ, List.set_cons_zero]
      repeat (first
        | (refine mix_w1 ?_; go_big_quiet_step (fail); refine wpQuiet_nil ?_)
        | (refine mix_l1 hc6 ?_; go_big_quiet_step (fail); refine wpQuiet_nil ?_))
      refine mix_done ?_
      have HC6 := Lib.hid hc6
      clear hc6
      go_wp2_with fail
      go_roundw
      case rel => exact ⟨i + 1, by simp, by omega, HC6.out, hnx.out⟩
      case measure => (simp [intOf]; omega)
    case true =>
    have hqn : (!(cmpS i == s2)) = false := by rw [q]; rfl
    have HS2 : Hid (cmpF s1 s3 x (if (s2 == []) = true then sgU cmpS s2 (i + 1) (14 - (i + 1)) else some i) = R) := Lib.hid (by have := HS1.out; rwa [if_neg (by rw [q]; decide)] at this)
    clear HS1
    cases q2 : (s2 == [])
    all_goals
      have HQ := Lib.hid q2
      go_wp2_with fail
      refine wp_region_mix [.w, .k, .w, .w, .l, .w, .w, .w, .w, .l, .w, .w] (by kernel_rfl) (by kernel_rfl) (fun W => Strs W (.slice (some ⟨g, 0, none⟩) 6 cap) [s0, s1, s2, s3, s4, s5] ∧ Kept (fun _ => False) w W) ?_
      have hcd := HC.out wr _ HW.out (Kept.refl _ wr).drew
      repeat (refine mix_w1 ?_; go_big_quiet_step (fail); refine wpQuiet_nil ?_)
      refine mix_k hcd fun Q' hQ' => ?_
      go_wp2_with fail
      refine (HN.out i hi13 _).mono ?_
      rintro e w6 ⟨rfl, hk6⟩
      have hc6 := HC.out _ w6 hcd hk6
      go_wp2_with fail
      refine hQ' _ _ hc6 ?_
      clear hQ' Q' hcd hk6
      repeat (refine mix_w1 ?_; go_big_quiet_step (fail); refine wpQuiet_nil ?_)
      refine mix_load1 hc6 rfl 9 (.tmp 30) rfl naST ⟨g, 2, none⟩ (stV s2) rfl (fun w' hw' => Strs.cell hw'.1 (i := 2) rfl) ?_
      simp only [Act.put, List.setIfInBounds_toArray, List.set_cons_succ, List.set_cons_zero]
      repeat (refine mix_w1 ?_; go_big_quiet_step (fail); refine wpQuiet_nil ?_)
      refine mix_loadG hc6 (by simp [Region.wanted, yielded, hqn]) 9 (.tmp 35) rfl naST ⟨g, 2, none⟩ (stV s2) rfl (fun w' hw' => Strs.cell hw'.1 (i := 2) rfl) ?_
      simp only [Act.put, List.setIfInBounds_toArray, List.set_cons_succ, List.set_cons_zero]
      repeat (refine mix_w1 ?_; go_big_quiet_step (fail); refine wpQuiet_nil ?_)
      refine mix_done ?_
      have HC6 := Lib.hid hc6
      clear hc6
    rotate_left
    · have hnx : Hid (cmpF s1 s3 x (sgU cmpS s2 (i + 1) (14 - (i + 1))) = R) := Lib.hid (by have := HS2.out; rwa [if_pos HQ.out] at this)
      go_wp2_with fail
      go_roundw
      case rel => exact ⟨i + 1, by simp, by omega, HC6.out, hnx.out⟩
      case measure => (simp [intOf]; omega)
    have hR : cmpAt s1 s3 x i = R := by have := HS2.out; rwa [if_neg (by rw [HQ.out]; decide)] at this
    clear HS2 HC HN
    have cc1 := Strs.cell HC6.out.1 (i := 1) (x := s1) rfl
    have cc3 := Strs.cell HC6.out.1 (i := 3) (x := s3) rfl
    have hgs := Sl.lt HC6.out.1 g rfl
    unfold cmpAt at hR
    cases e1 : (s1 == [])
    case true =>
      rw [if_pos e1] at hR
      have hs1 : s1 = [] := by simpa using e1
      subst hs1
      clear e1
      have HA := Lib.hid (fun W => register_any [] 114 W h1)
      have HB := Lib.hid (fun W => register_any s3 114 W h3)
      have HI := Lib.hid (fun W => imm_any s3 W h3)
      have hR : cmpQ (16 * (i : Int) + 5) x (regS [] 114) (regS s3 114) (immS s3) = R := hR
      generalize regS [] 114 = ra at *
      generalize regS s3 114 = rb at *
      generalize immS s3 = vi at *
      have HR := Lib.hid hR
      clear hR HQ q q2 hqn
      cases ra with
      | none =>
        have hR : none = R := HR.out
        subst hR
        go_wp2_with fail
        refine (HA.out _).mono ?_
        rintro e w7 ⟨⟨y, rfl, hy⟩, rfl⟩
        clear hy
        go_wp2_with fail
        refine bodyPost_ret (v := .tuple #[.slice none 0 0, .bool false]) (by simp [results, Tryz.results171, go_sem]) rfl ?_
        exact ⟨⟨_, rfl, fun l h => by (cases h), fun k hk => own_none hk⟩, HC6.out.2.alloc _⟩
      | some a =>
        go_wp2_with fail
        refine (HA.out _).mono ?_
        rintro e w7 ⟨⟨y, rfl, hy⟩, rfl⟩
        obtain rfl := hy a rfl
        clear hy HA
        go_wp2_with fail
        refine (HB.out _).mono ?_
        rintro e w8 ⟨⟨z, rfl, hz⟩, rfl⟩
        cases rb with
        | some b =>
          obtain rfl := hz b rfl
          clear hz HB
          have hR : some [(⟨16 * (i : Int) + 5 + 8, a, b, x, 0⟩ : In)] = R := HR.out
          subst hR
          go_wp2_with fail
          refine bodyPost_ret (v := .tuple #[.slice (some ⟨w6.heap.size + 1, 0, none⟩) 1 1, .bool true]) (by simp [results, Tryz.results171, go_sem]) rfl ?_
          refine ⟨⟨_, rfl, fun l h => ?_, fun k hk => own_one HC6.out.2.size hk⟩, (HC6.out.2.alloc _).alloc _⟩
          cases h
          exact inS_one _ ⟨16 * (i : Int) + 5 + 8, a, b, x, 0⟩ (by simp)
        | none =>
          clear hz HB
          go_wp2_with fail
          refine (HI.out _).mono ?_
          rintro e w9 ⟨⟨v, rfl, hv⟩, rfl⟩
          cases vi with
          | none =>
            clear hv
            have hR : none = R := HR.out
            subst hR
            go_wp2_with fail
            refine bodyPost_ret (v := .tuple #[.slice (some ⟨w6.heap.size + 1, 0, none⟩) 1 1, .bool false]) (by simp [results, Tryz.results171, go_sem]) rfl ?_
            exact ⟨⟨_, rfl, fun l h => by (cases h), fun k hk => own_one HC6.out.2.size hk⟩, (HC6.out.2.alloc _).alloc _⟩
          | some v' =>
            obtain rfl := hv v' rfl
            clear hv
            have hR : some [(⟨16 * (i : Int) + 5, a, 0, x, v⟩ : In)] = R := HR.out
            subst hR
            go_wp2_with fail
            refine bodyPost_ret (v := .tuple #[.slice (some ⟨w6.heap.size + 1, 0, none⟩) 1 1, .bool true]) (by simp [results, Tryz.results171, go_sem]) rfl ?_
            refine ⟨⟨_, rfl, fun l h => ?_, fun k hk => own_one HC6.out.2.size hk⟩, (HC6.out.2.alloc _).alloc _⟩
            cases h
            exact inS_one _ ⟨16 * (i : Int) + 5, a, 0, x, v⟩ (by simp)
    case false =>
    rw [if_neg (by rw [e1]; decide)] at hR
    have hpos : 0 < s1.length := by cases s1 with
      | nil => cases e1
      | cons => simp
    have hem : s1.isEmpty = false := by cases s1 with
      | nil => cases e1
      | cons => rfl
    have hem2 : (!(s1 == [])) = true := by rw [e1]; rfl
    have hix0 : ∀ W, (Instr.index 9 (.string ⟨s1.toArray⟩) (.int .i64 0)).run Tryz.prog W = .ok (.int .u8 (ch s1 0)) W := fun W => ch_index (i := 0) (by omega) W
    generalize ch s1 0 = c0 at *
    cases e2 : (c0 == 119)
    case true =>
      rw [if_pos e2] at hR
      have HA := Lib.hid (fun W => register_any s1 119 W h1)
      have HB := Lib.hid (fun W => register_any s3 119 W h3)
      have HI := Lib.hid (fun W => imm_any s3 W h3)
      have hR : cmpQ (16 * (i : Int) + 6) x (regS s1 119) (regS s3 119) (immS s3) = R := hR
      generalize regS s1 119 = ra at *
      generalize regS s3 119 = rb at *
      generalize immS s3 = vi at *
      have HR := Lib.hid hR
      clear hR HQ q q2 hqn
      cases ra with
      | none =>
        have hR : none = R := HR.out
        subst hR
        go_wp2_with fail
        refine (HA.out _).mono ?_
        rintro e w7 ⟨⟨y, rfl, hy⟩, rfl⟩
        clear hy
        go_wp2_with fail
        refine bodyPost_ret (v := .tuple #[.slice none 0 0, .bool false]) (by simp [results, Tryz.results171, go_sem]) rfl ?_
        exact ⟨⟨_, rfl, fun l h => by (cases h), fun k hk => own_none hk⟩, HC6.out.2.alloc _⟩
      | some a =>
        go_wp2_with fail
        refine (HA.out _).mono ?_
        rintro e w7 ⟨⟨y, rfl, hy⟩, rfl⟩
        obtain rfl := hy a rfl
        clear hy HA
        go_wp2_with fail
        refine (HB.out _).mono ?_
        rintro e w8 ⟨⟨z, rfl, hz⟩, rfl⟩
        cases rb with
        | some b =>
          obtain rfl := hz b rfl
          clear hz HB
          have hR : some [(⟨16 * (i : Int) + 6 + 8, a, b, x, 0⟩ : In)] = R := HR.out
          subst hR
          go_wp2_with fail
          refine bodyPost_ret (v := .tuple #[.slice (some ⟨w6.heap.size + 1, 0, none⟩) 1 1, .bool true]) (by simp [results, Tryz.results171, go_sem]) rfl ?_
          refine ⟨⟨_, rfl, fun l h => ?_, fun k hk => own_one HC6.out.2.size hk⟩, (HC6.out.2.alloc _).alloc _⟩
          cases h
          exact inS_one _ ⟨16 * (i : Int) + 6 + 8, a, b, x, 0⟩ (by simp)
        | none =>
          clear hz HB
          go_wp2_with fail
          refine (HI.out _).mono ?_
          rintro e w9 ⟨⟨v, rfl, hv⟩, rfl⟩
          cases vi with
          | none =>
            clear hv
            have hR : none = R := HR.out
            subst hR
            go_wp2_with fail
            refine bodyPost_ret (v := .tuple #[.slice (some ⟨w6.heap.size + 1, 0, none⟩) 1 1, .bool false]) (by simp [results, Tryz.results171, go_sem]) rfl ?_
            exact ⟨⟨_, rfl, fun l h => by (cases h), fun k hk => own_one HC6.out.2.size hk⟩, (HC6.out.2.alloc _).alloc _⟩
          | some v' =>
            obtain rfl := hv v' rfl
            clear hv
            have hR : some [(⟨16 * (i : Int) + 6, a, 0, x, v⟩ : In)] = R := HR.out
            subst hR
            go_wp2_with fail
            refine bodyPost_ret (v := .tuple #[.slice (some ⟨w6.heap.size + 1, 0, none⟩) 1 1, .bool true]) (by simp [results, Tryz.results171, go_sem]) rfl ?_
            refine ⟨⟨_, rfl, fun l h => ?_, fun k hk => own_one HC6.out.2.size hk⟩, (HC6.out.2.alloc _).alloc _⟩
            cases h
            exact inS_one _ ⟨16 * (i : Int) + 6, a, 0, x, v⟩ (by simp)
    case false =>
      rw [if_neg (by rw [e2]; decide)] at hR
      have HA := Lib.hid (fun W => register_any s1 114 W h1)
      have HB := Lib.hid (fun W => register_any s3 114 W h3)
      have HI := Lib.hid (fun W => imm_any s3 W h3)
      have hR : cmpQ (16 * (i : Int) + 5) x (regS s1 114) (regS s3 114) (immS s3) = R := hR
      generalize regS s1 114 = ra at *
      generalize regS s3 114 = rb at *
      generalize immS s3 = vi at *
      have HR := Lib.hid hR
      clear hR HQ q q2 hqn
      cases ra with
      | none =>
        have hR : none = R := HR.out
        subst hR
        go_wp2_with fail
        refine (HA.out _).mono ?_
        rintro e w7 ⟨⟨y, rfl, hy⟩, rfl⟩
        clear hy
        go_wp2_with fail
        refine bodyPost_ret (v := .tuple #[.slice none 0 0, .bool false]) (by simp [results, Tryz.results171, go_sem]) rfl ?_
        exact ⟨⟨_, rfl, fun l h => by (cases h), fun k hk => own_none hk⟩, HC6.out.2.alloc _⟩
      | some a =>
        go_wp2_with fail
        refine (HA.out _).mono ?_
        rintro e w7 ⟨⟨y, rfl, hy⟩, rfl⟩
        obtain rfl := hy a rfl
        clear hy HA
        go_wp2_with fail
        refine (HB.out _).mono ?_
        rintro e w8 ⟨⟨z, rfl, hz⟩, rfl⟩
        cases rb with
        | some b =>
          obtain rfl := hz b rfl
          clear hz HB
          have hR : some [(⟨16 * (i : Int) + 5 + 8, a, b, x, 0⟩ : In)] = R := HR.out
          subst hR
          go_wp2_with fail
          refine bodyPost_ret (v := .tuple #[.slice (some ⟨w6.heap.size + 1, 0, none⟩) 1 1, .bool true]) (by simp [results, Tryz.results171, go_sem]) rfl ?_
          refine ⟨⟨_, rfl, fun l h => ?_, fun k hk => own_one HC6.out.2.size hk⟩, (HC6.out.2.alloc _).alloc _⟩
          cases h
          exact inS_one _ ⟨16 * (i : Int) + 5 + 8, a, b, x, 0⟩ (by simp)
        | none =>
          clear hz HB
          go_wp2_with fail
          refine (HI.out _).mono ?_
          rintro e w9 ⟨⟨v, rfl, hv⟩, rfl⟩
          cases vi with
          | none =>
            clear hv
            have hR : none = R := HR.out
            subst hR
            go_wp2_with fail
            refine bodyPost_ret (v := .tuple #[.slice (some ⟨w6.heap.size + 1, 0, none⟩) 1 1, .bool false]) (by simp [results, Tryz.results171, go_sem]) rfl ?_
            exact ⟨⟨_, rfl, fun l h => by (cases h), fun k hk => own_one HC6.out.2.size hk⟩, (HC6.out.2.alloc _).alloc _⟩
          | some v' =>
            obtain rfl := hv v' rfl
            clear hv
            have hR : some [(⟨16 * (i : Int) + 5, a, 0, x, v⟩ : In)] = R := HR.out
            subst hR
            go_wp2_with fail
            refine bodyPost_ret (v := .tuple #[.slice (some ⟨w6.heap.size + 1, 0, none⟩) 1 1, .bool true]) (by simp [results, Tryz.results171, go_sem]) rfl ?_
            refine ⟨⟨_, rfl, fun l h => ?_, fun k hk => own_one HC6.out.2.size hk⟩, (HC6.out.2.alloc _).alloc _⟩
            cases h
            exact inS_one _ ⟨16 * (i : Int) + 5, a, 0, x, v⟩ (by simp)

end Go.Proofs.YtdchmelgaljpfaaGreat

