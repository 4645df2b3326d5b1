import Derived.Test.YtlkgmcacbfoijaaGreatZay
import Derived.Test.YtlkgmcacbfoijaaGreatKzx
import Derived.Test.YtlkgmcacbfoijaaGreatMh
set_option linter.unusedSimpArgs false
set_option linter.unusedVariables false
namespace Go.Proofs.YtlkgmcacbfoijaaGreat
open Go.RowKit

/-! ### 'rD = N ll', 'rD = map N', 'rD = func O', 'rD = le16 rD' -/
def low32 (n : Nat) : Int := wrap32 ((n % 4294967296 : Nat) : Int)
def high32 (n : Nat) : Int := wrap32 ((n / 4294967296 : Nat) : Int)
def zeroI : In := ⟨0, 0, 0, 0, 0⟩
def nmS (i : Nat) : List UInt8 := match i with
  | 0 => [108, 101]
  | 1 => [98, 101]
  | 2 => [115, 119, 97, 112]
  | _ => []
def swS (s : List UInt8) (d : Int) : Option (List In) := if (s == [108, 101, 49, 54]) = true then some [⟨212, d, 0, 0, 16⟩] else if (s == [108, 101, 51, 50]) = true then some [⟨212, d, 0, 0, 32⟩] else if (s == [108, 101, 54, 52]) = true then some [⟨212, d, 0, 0, 64⟩]
  else if (s == [98, 101, 49, 54]) = true then some [⟨220, d, 0, 0, 16⟩] else if (s == [98, 101, 51, 50]) = true then some [⟨220, d, 0, 0, 32⟩] else if (s == [98, 101, 54, 52]) = true then some [⟨220, d, 0, 0, 64⟩]
  else if (s == [115, 119, 97, 112, 49, 54]) = true then some [⟨215, d, 0, 0, 16⟩] else if (s == [115, 119, 97, 112, 51, 50]) = true then some [⟨215, d, 0, 0, 32⟩] else if (s == [115, 119, 97, 112, 54, 52]) = true then some [⟨215, d, 0, 0, 64⟩] else none
def specialS (s0 s2 s3 : List UInt8) (d : Int) : Option (List In) := if (s3 == [108, 108]) = true then (plainS s2).map fun n => [⟨24, d, 0, 0, low32 n⟩, ⟨0, 0, 0, 0, high32 n⟩]
  else if (s2 == [109, 97, 112]) = true then (immS s3).map fun v => [⟨24, d, 1, 0, v⟩, zeroI]
  else if (s2 == [102, 117, 110, 99]) = true then (offS s3 2147483647).map fun v => [⟨24, d, 4, 0, v⟩, zeroI]
  else if (s3 == s0) = false then none else swS s2 d
theorem inS_two (w : World) (x y : In) {n : Nat} (hn : n = w.heap.size) : InS (w.alloc (.cells #[.int .u8 x.op, .int .u8 x.dst, .int .u8 x.src, .int .i16 x.off, .int .i32 x.imm, .int .u8 y.op, .int .u8 y.dst, .int .u8 y.src, .int .i16 y.off, .int .i32 y.imm] 47)) (.slice (some ⟨n, 0, none⟩) 2 2) [x, y] := by
  subst hn
  exact inS_new w [x, y] (by simp)
theorem own_two {n k : Nat} (h : (Value.slice (some ⟨n + 1, 0, none⟩) 2 2).ownBlock = some k) : n ≤ k := by
  have : n + 1 = k := Option.some.inj h
  omega
theorem own_none {n k : Nat} (h : (Value.slice none 0 0).ownBlock = some k) : n ≤ k := by cases h
theorem naST : ∀ w, (isAgg 9).run Tryz.prog w = .ok false w := fun w => by kernel_rfl
theorem naI32 : ∀ w, (isAgg 21).run Tryz.prog w = .ok false w := fun w => by kernel_rfl
theorem naU8q : ∀ w, (isAgg 5).run Tryz.prog w = .ok false w := fun w => by kernel_rfl
/-- the six names' rows in memory -/
structure Nm (w : World) (g B : Nat) (s2 : List UInt8) : Prop where
  cell : w.cell? ⟨g, 2, none⟩ = some (stV s2)
  nm : Blk w (B + 1) 164 #[stV [108, 101], stV [98, 101], stV [115, 119, 97, 112]]
  op : Blk w (B + 1 + 1) 165 #[.int .u8 212, .int .u8 220, .int .u8 215]
  sz : Blk w (B + 1 + 1 + 1) 166 #[.int .i32 16, .int .i32 32, .int .i32 64]
theorem Nm.kept {w w' : World} {g B : Nat} {s2 : List UInt8} (h : Nm w g B s2) (hg : g < w.heap.size) (hk : Kept (fun _ => False) w w') : Nm w' g B s2 :=
  ⟨(hk.cell (p := ⟨g, 2, none⟩) hg id).trans h.cell, hk.blk id h.nm, hk.blk id h.op, hk.blk id h.sz⟩
theorem blk_new (w : World) {t : TypeId} {cs : Array Value} {n : Nat} (hn : n = w.heap.size) : Blk (w.alloc (.cells cs t)) n t cs := hn ▸ Blk.new w t cs
def swU (s : List UInt8) (d : Int) : Nat → Option (List In)
  | 0 => none
  | n + 1 => if (s == ([[108, 101, 49, 54], [108, 101, 51, 50], [108, 101, 54, 52], [98, 101, 49, 54], [98, 101, 51, 50], [98, 101, 54, 52], [115, 119, 97, 112, 49, 54], [115, 119, 97, 112, 51, 50], [115, 119, 97, 112, 54, 52]].reverse[n]?.getD [])) = true
    then some [⟨[212, 212, 212, 220, 220, 220, 215, 215, 215].reverse[n]?.getD 0, d, 0, 0, [16, 32, 64, 16, 32, 64, 16, 32, 64].reverse[n]?.getD 0⟩] else swU s d n
theorem swU_all (s : List UInt8) (d : Int) : swU s d 9 = swS s d := rfl
theorem inS_one (w : World) (x : In) {n : Nat} (hn : n = w.heap.size) : InS (w.alloc (.cells #[.int .u8 x.op, .int .u8 x.dst, .int .u8 x.src, .int .i16 x.off, .int .i32 x.imm] 47)) (.slice (some ⟨n, 0, none⟩) 1 1) [x] := by
  subst hn
  exact inS_new w [x] (by simp)
set_option maxHeartbeats 8000000 in
set_option maxRecDepth 100000 in
theorem special_names (s0 s2 s3 : List UInt8) (g cap : Nat) (d : Int) (R : Option (List In)) (w : World) (c0 : w.cell? ⟨g, 0, none⟩ = some (stV s0)) (c2 : w.cell? ⟨g, 2, none⟩ = some (stV s2)) (c3 : w.cell? ⟨g, 3, none⟩ = some (stV s3)) (hlt : g < w.heap.size)
    (q1 : (s3 == [108, 108]) = false) (q2 : (s2 == [109, 97, 112]) = false) (q3 : (s2 == [102, 117, 110, 99]) = false) (q4 : (s3 == s0) = true) (hR : swS s2 d = R) :
    Calls Tryz.prog 113 #[.slice (some ⟨g, 0, none⟩) 4 cap, .int .u8 d, .bool true] w fun e w' => (∃ v, e = .returned (.tuple #[v, .bool R.isSome]) ∧ (∀ l, R = some l → InS w' v l) ∧ ∀ k, v.ownBlock = some k → w.heap.size ≤ k) ∧ Kept (fun _ => False) w w' := by
  have q4n : (!(s3 == s0)) = false := by rw [q4]; rfl
  have HN1 : Hid (∀ W, Calls Tryz.prog 122 #[.int .i64 16] W fun e w' => e = .returned (stV [49, 54]) ∧ Kept (fun _ => False) W w') := Lib.hid (fun W => rNumber_any 16 W (by omega))
  have HN2 : Hid (∀ W, Calls Tryz.prog 122 #[.int .i64 32] W fun e w' => e = .returned (stV [51, 50]) ∧ Kept (fun _ => False) W w') := Lib.hid (fun W => rNumber_any 32 W (by omega))
  have HN3 : Hid (∀ W, Calls Tryz.prog 122 #[.int .i64 64] W fun e w' => e = .returned (stV [54, 52]) ∧ Kept (fun _ => False) W w') := Lib.hid (fun W => rNumber_any 64 W (by omega))
  have HR : Hid (swU s2 d 9 = R) := Lib.hid ((swU_all s2 d).trans hR)
  clear hR
  go_enter Tryz.func113, Tryz.ntmps113
  go_wp2_with fail
  refine wp_region_mix0 [.w, .w, .l, .w, .w, .l, .w] (by kernel_rfl) (by kernel_rfl) ?_
  repeat (first
    | (refine mix_w1 ?_; go_big_quiet_step (fail); refine wpQuiet_nil ?_)
    | (refine mix_l1 rfl ?_; go_big_quiet_step (fail); refine wpQuiet_nil ?_))
  refine mix_done ?_
  go_wp2_with fail
  have hK0 := Lib.hid ((((((Kept.refl (fun _ => False) w).alloc (.cells #[.int .u8 24, .int .u8 d, .int .u8 0, .int .i16 0, .int .i32 0] 47)).alloc (.cells #[stV [108, 101], stV [98, 101], stV [115, 119, 97, 112]] 164)).alloc (.cells #[.int .u8 212, .int .u8 220, .int .u8 215] 165)).alloc (.cells #[.int .i32 16, .int .i32 32, .int .i32 64] 166)).drew)
  clear c0 c3 q1 q2 q3 q4 q4n
  go_loopw [18] (fun iv wr => ∃ i : Int, iv = .int .i64 i ∧ 0 ≤ i ∧ i ≤ 3 ∧ Nm wr g w.heap.size s2 ∧ Kept (fun _ => False) w wr ∧ g < wr.heap.size ∧ swU s2 d (9 - 3 * i.toNat) = R) (fun iv _ => 3 - (intOf iv).toNat)
  case atStart =>
    refine ⟨0, rfl, by omega, by omega, ⟨?_, ?_, ?_, ?_⟩, hK0.out, Nat.lt_of_lt_of_le hlt hK0.out.size, HR.out⟩
    · exact (hK0.out.cell (p := ⟨g, 2, none⟩) hlt id).trans c2
    · exact Blk.drew (Blk.alloc (Blk.alloc (blk_new (w.alloc _) (by simp)) _) _)
    · exact Blk.drew (Blk.alloc (blk_new ((w.alloc _).alloc _) (by simp)) _)
    · exact Blk.drew (blk_new (((w.alloc _).alloc _).alloc _) (by simp))
  case round =>
    obtain ⟨i, rfl, hi0, hi3, hnm, hkw, hgw, hsw⟩ := hrel
    have hi4 : i = 0 ∨ i = 1 ∨ i = 2 ∨ i = 3 := by omega
    clear hi0 hi3 HR hK0 c2
    have HS := Lib.hid hsw
    clear hsw
    rcases hi4 with rfl | rfl | rfl | rfl
    case inr.inr.inr =>
      have hR : none = R := HS.out
      subst hR
      go_wp2_with fail
      refine bodyPost_ret (v := .tuple #[.slice none 0 0, .bool false]) (by simp [results, Tryz.results113, go_sem]) rfl ?_
      exact ⟨⟨_, rfl, fun l h => by (cases h), fun k hk => own_none hk⟩, hkw⟩
    -- ROUNDS
    · go_wp2_with fail
      go_loopw [19] (fun kv wr => ∃ k : Int, kv = .int .i64 k ∧ 0 ≤ k ∧ k ≤ 3 ∧ Nm wr g w.heap.size s2 ∧ Kept (fun _ => False) w wr ∧ g < wr.heap.size ∧ swU s2 d (9 - k.toNat) = R) (fun kv _ => 3 - (intOf kv).toNat)
      case atStart => exact ⟨0, rfl, by omega, by omega, hnm, hkw, hgw, HS.out⟩
      case round =>
        clear HS hkw hnm hgw
        obtain ⟨k, rfl, hk0, hk3, hnm, hkw, hgw, hsw⟩ := hrel
        have hk4 : k = 0 ∨ k = 1 ∨ k = 2 ∨ k = 3 := by omega
        clear hk0 hk3
        have HS := Lib.hid hsw
        clear hsw
        rcases hk4 with rfl | rfl | rfl | rfl
        case inr.inr.inr =>
          go_wp2_with fail
          go_roundw
          case rel => exact ⟨1, rfl, by omega, by omega, hnm, hkw, hgw, HS.out⟩
          case measure => (simp [intOf])
        · have HS1 : Hid ((if (s2 == [108, 101, 49, 54]) = true then some [(⟨212, d, 0, 0, 16⟩ : In)] else swU s2 d 8) = R) := Lib.hid HS.out
          clear HS
          have hadd : ∀ W, (Op.stringOp .add ⟨#[108, 101]⟩ ⟨#[49, 54]⟩).run Tryz.prog W = .ok (stV [108, 101, 49, 54]) W := fun W => run_string_add_lists (P := Tryz.prog) (w := W) [108, 101] [49, 54] (by simp) (by simp)
          have HC := Lib.hid (fun W W' (h : Nm W g w.heap.size s2 ∧ Kept (fun _ => False) w W ∧ g < W.heap.size) (hk : Kept (fun _ => False) W W') => (⟨h.1.kept h.2.2 hk, h.2.1.trans hk (fun _ _ h => h), Nat.lt_of_lt_of_le h.2.2 hk.size⟩ : Nm W' g w.heap.size s2 ∧ Kept (fun _ => False) w W' ∧ g < W'.heap.size))
          cases q : (s2 == [108, 101, 49, 54])
          all_goals
            have HQ : Hid ((s2 == [108, 101, 49, 54]) = _) := Lib.hid q
            go_wp2_with fail
            refine wp_region_mix [.w, .w, .l, .w, .w, .l, .w, .w, .l, .w, .k, .w, .w] (by kernel_rfl) (by kernel_rfl) (fun W => Nm W g w.heap.size s2 ∧ Kept (fun _ => False) w W ∧ g < W.heap.size) ?_
            have hcd := HC.out wr _ ⟨hnm, hkw, hgw⟩ (Kept.refl _ wr).drew
            repeat (refine mix_w1 ?_; go_big_quiet_step (fail); refine wpQuiet_nil ?_)
            refine mix_load1 hcd rfl 9 (.tmp 107) rfl naST ⟨g, 2, none⟩ (stV s2) rfl (fun w' hw' => hw'.1.cell) ?_
            simp only [Act.put, List.setIfInBounds_toArray, List.set_cons_succ, List.set_cons_zero]
            repeat (refine mix_w1 ?_; go_big_quiet_step (fail); refine wpQuiet_nil ?_)
            refine mix_load1 hcd rfl 9 (.tmp 110) rfl naST ⟨w.heap.size + 1, 0, none⟩ (stV [108, 101]) rfl (fun w' hw' => hw'.1.nm.cell 0) ?_
            simp only [Act.put, List.setIfInBounds_toArray, List.set_cons_succ, List.set_cons_zero]
            repeat (refine mix_w1 ?_; go_big_quiet_step (fail); refine wpQuiet_nil ?_)
            refine mix_load1 hcd rfl 21 (.tmp 113) rfl naI32 ⟨w.heap.size + 1 + 1 + 1, 0, none⟩ (.int .i32 16) rfl (fun w' hw' => hw'.1.sz.cell 0) ?_
            simp only [Act.put, List.setIfInBounds_toArray, List.set_cons_succ, List.set_cons_zero]
            repeat (refine mix_w1 ?_; go_big_quiet_step (fail); refine wpQuiet_nil ?_)
            refine mix_k hcd fun Q' hQ' => ?_
            go_wp2_with fail
            refine (HN1.out _).mono ?_
            rintro e w6 ⟨rfl, hk6⟩
            have hc6 := HC.out _ w6 hcd hk6
            go_wp2_with fail
            refine hQ' _ _ hc6 ?_
            clear hQ' Q' hcd hk6 hnm hkw hgw
            repeat (refine mix_w1 ?_; go_big_quiet_step (fail); refine wpQuiet_nil ?_)
            refine mix_done ?_
            go_wp2_with fail
            first
            | (go_roundw
               case rel => exact ⟨1, rfl, by omega, by omega, hc6.1, hc6.2.1, hc6.2.2, (if_neg (by rw [HQ.out]; decide)).symm.trans HS1.out⟩
               case measure => (simp [intOf]))
            | skip
          refine wp_region_mix [.w, .w, .l, .w, .w, .w, .l, .w, .t, .t, .t] (by kernel_rfl) (by kernel_rfl) (fun W => Nm W g w.heap.size s2 ∧ Kept (fun _ => False) w W ∧ g < W.heap.size) ?_
          have hcd := HC.out w6 _ hc6 (Kept.refl _ w6).drew
          repeat (refine mix_w1 ?_; go_big_quiet_step (fail); refine wpQuiet_nil ?_)
          refine mix_load1 hcd rfl 5 (.tmp 120) rfl naU8q ⟨w.heap.size + 1 + 1, 0, none⟩ (.int .u8 212) rfl (fun w' hw' => hw'.1.op.cell 0) ?_
          simp only [Act.put, List.setIfInBounds_toArray, List.set_cons_succ, List.set_cons_zero]
          repeat (refine mix_w1 ?_; go_big_quiet_step (fail); refine wpQuiet_nil ?_)
          refine mix_load1 hcd rfl 21 (.tmp 124) rfl naI32 ⟨w.heap.size + 1 + 1 + 1, 0, none⟩ (.int .i32 16) rfl (fun w' hw' => hw'.1.sz.cell 0) ?_
          simp only [Act.put, List.setIfInBounds_toArray, List.set_cons_succ, List.set_cons_zero]
          repeat (refine mix_w1 ?_; go_big_quiet_step (fail); refine wpQuiet_nil ?_)
          repeat (refine mix_t fun Q' hQ' => ?_; go_wp2_with fail)
          refine mix_done ?_
          go_wp2_with fail
          have hR := (if_pos HQ.out).symm.trans HS1.out
          subst hR
          refine bodyPost_ret (v := .tuple #[.slice (some ⟨w6.heap.size, 0, none⟩) 1 1, .bool true]) (by simp [results, Tryz.results113, go_sem]) rfl ?_
          refine ⟨⟨_, rfl, fun l h => ?_, fun k hk => by have : w6.heap.size = k := Option.some.inj hk
                                                         have := hc6.2.1.size
                                                         omega⟩, hcd.2.1.alloc _⟩
          cases h
          exact inS_one _ ⟨212, d, 0, 0, 16⟩ rfl
        · have HS1 : Hid ((if (s2 == [108, 101, 51, 50]) = true then some [(⟨212, d, 0, 0, 32⟩ : In)] else swU s2 d 7) = R) := Lib.hid HS.out
          clear HS
          have hadd : ∀ W, (Op.stringOp .add ⟨#[108, 101]⟩ ⟨#[51, 50]⟩).run Tryz.prog W = .ok (stV [108, 101, 51, 50]) W := fun W => run_string_add_lists (P := Tryz.prog) (w := W) [108, 101] [51, 50] (by simp) (by simp)
          have HC := Lib.hid (fun W W' (h : Nm W g w.heap.size s2 ∧ Kept (fun _ => False) w W ∧ g < W.heap.size) (hk : Kept (fun _ => False) W W') => (⟨h.1.kept h.2.2 hk, h.2.1.trans hk (fun _ _ h => h), Nat.lt_of_lt_of_le h.2.2 hk.size⟩ : Nm W' g w.heap.size s2 ∧ Kept (fun _ => False) w W' ∧ g < W'.heap.size))
          cases q : (s2 == [108, 101, 51, 50])
          all_goals
            have HQ : Hid ((s2 == [108, 101, 51, 50]) = _) := Lib.hid q
            go_wp2_with fail
            refine wp_region_mix [.w, .w, .l, .w, .w, .l, .w, .w, .l, .w, .k, .w, .w] (by kernel_rfl) (by kernel_rfl) (fun W => Nm W g w.heap.size s2 ∧ Kept (fun _ => False) w W ∧ g < W.heap.size) ?_
            have hcd := HC.out wr _ ⟨hnm, hkw, hgw⟩ (Kept.refl _ wr).drew
            repeat (refine mix_w1 ?_; go_big_quiet_step (fail); refine wpQuiet_nil ?_)
            refine mix_load1 hcd rfl 9 (.tmp 107) rfl naST ⟨g, 2, none⟩ (stV s2) rfl (fun w' hw' => hw'.1.cell) ?_
            simp only [Act.put, List.setIfInBounds_toArray, List.set_cons_succ, List.set_cons_zero]
            repeat (refine mix_w1 ?_; go_big_quiet_step (fail); refine wpQuiet_nil ?_)
            refine mix_load1 hcd rfl 9 (.tmp 110) rfl naST ⟨w.heap.size + 1, 0, none⟩ (stV [108, 101]) rfl (fun w' hw' => hw'.1.nm.cell 0) ?_
            simp only [Act.put, List.setIfInBounds_toArray, List.set_cons_succ, List.set_cons_zero]
            repeat (refine mix_w1 ?_; go_big_quiet_step (fail); refine wpQuiet_nil ?_)
            refine mix_load1 hcd rfl 21 (.tmp 113) rfl naI32 ⟨w.heap.size + 1 + 1 + 1, 1, none⟩ (.int .i32 32) rfl (fun w' hw' => hw'.1.sz.cell 1) ?_
            simp only [Act.put, List.setIfInBounds_toArray, List.set_cons_succ, List.set_cons_zero]
            repeat (refine mix_w1 ?_; go_big_quiet_step (fail); refine wpQuiet_nil ?_)
            refine mix_k hcd fun Q' hQ' => ?_
            go_wp2_with fail
            refine (HN2.out _).mono ?_
            rintro e w6 ⟨rfl, hk6⟩
            have hc6 := HC.out _ w6 hcd hk6
            go_wp2_with fail
            refine hQ' _ _ hc6 ?_
            clear hQ' Q' hcd hk6 hnm hkw hgw
            repeat (refine mix_w1 ?_; go_big_quiet_step (fail); refine wpQuiet_nil ?_)
            refine mix_done ?_
            go_wp2_with fail
            first
            | (go_roundw
               case rel => exact ⟨2, rfl, by omega, by omega, hc6.1, hc6.2.1, hc6.2.2, (if_neg (by rw [HQ.out]; decide)).symm.trans HS1.out⟩
               case measure => (simp [intOf]))
            | skip
          refine wp_region_mix [.w, .w, .l, .w, .w, .w, .l, .w, .t, .t, .t] (by kernel_rfl) (by kernel_rfl) (fun W => Nm W g w.heap.size s2 ∧ Kept (fun _ => False) w W ∧ g < W.heap.size) ?_
          have hcd := HC.out w6 _ hc6 (Kept.refl _ w6).drew
          repeat (refine mix_w1 ?_; go_big_quiet_step (fail); refine wpQuiet_nil ?_)
          refine mix_load1 hcd rfl 5 (.tmp 120) rfl naU8q ⟨w.heap.size + 1 + 1, 0, none⟩ (.int .u8 212) rfl (fun w' hw' => hw'.1.op.cell 0) ?_
          simp only [Act.put, List.setIfInBounds_toArray, List.set_cons_succ, List.set_cons_zero]
          repeat (refine mix_w1 ?_; go_big_quiet_step (fail); refine wpQuiet_nil ?_)
          refine mix_load1 hcd rfl 21 (.tmp 124) rfl naI32 ⟨w.heap.size + 1 + 1 + 1, 1, none⟩ (.int .i32 32) rfl (fun w' hw' => hw'.1.sz.cell 1) ?_
          simp only [Act.put, List.setIfInBounds_toArray, List.set_cons_succ, List.set_cons_zero]
          repeat (refine mix_w1 ?_; go_big_quiet_step (fail); refine wpQuiet_nil ?_)
          repeat (refine mix_t fun Q' hQ' => ?_; go_wp2_with fail)
          refine mix_done ?_
          go_wp2_with fail
          have hR := (if_pos HQ.out).symm.trans HS1.out
          subst hR
          refine bodyPost_ret (v := .tuple #[.slice (some ⟨w6.heap.size, 0, none⟩) 1 1, .bool true]) (by simp [results, Tryz.results113, go_sem]) rfl ?_
          refine ⟨⟨_, rfl, fun l h => ?_, fun k hk => by have : w6.heap.size = k := Option.some.inj hk
                                                         have := hc6.2.1.size
                                                         omega⟩, hcd.2.1.alloc _⟩
          cases h
          exact inS_one _ ⟨212, d, 0, 0, 32⟩ rfl
        · have HS1 : Hid ((if (s2 == [108, 101, 54, 52]) = true then some [(⟨212, d, 0, 0, 64⟩ : In)] else swU s2 d 6) = R) := Lib.hid HS.out
          clear HS
          have hadd : ∀ W, (Op.stringOp .add ⟨#[108, 101]⟩ ⟨#[54, 52]⟩).run Tryz.prog W = .ok (stV [108, 101, 54, 52]) W := fun W => run_string_add_lists (P := Tryz.prog) (w := W) [108, 101] [54, 52] (by simp) (by simp)
          have HC := Lib.hid (fun W W' (h : Nm W g w.heap.size s2 ∧ Kept (fun _ => False) w W ∧ g < W.heap.size) (hk : Kept (fun _ => False) W W') => (⟨h.1.kept h.2.2 hk, h.2.1.trans hk (fun _ _ h => h), Nat.lt_of_lt_of_le h.2.2 hk.size⟩ : Nm W' g w.heap.size s2 ∧ Kept (fun _ => False) w W' ∧ g < W'.heap.size))
          cases q : (s2 == [108, 101, 54, 52])
          all_goals
            have HQ : Hid ((s2 == [108, 101, 54, 52]) = _) := Lib.hid q
            go_wp2_with fail
            refine wp_region_mix [.w, .w, .l, .w, .w, .l, .w, .w, .l, .w, .k, .w, .w] (by kernel_rfl) (by kernel_rfl) (fun W => Nm W g w.heap.size s2 ∧ Kept (fun _ => False) w W ∧ g < W.heap.size) ?_
            have hcd := HC.out wr _ ⟨hnm, hkw, hgw⟩ (Kept.refl _ wr).drew
            repeat (refine mix_w1 ?_; go_big_quiet_step (fail); refine wpQuiet_nil ?_)
            refine mix_load1 hcd rfl 9 (.tmp 107) rfl naST ⟨g, 2, none⟩ (stV s2) rfl (fun w' hw' => hw'.1.cell) ?_
            simp only [Act.put, List.setIfInBounds_toArray, List.set_cons_succ, List.set_cons_zero]
            repeat (refine mix_w1 ?_; go_big_quiet_step (fail); refine wpQuiet_nil ?_)
            refine mix_load1 hcd rfl 9 (.tmp 110) rfl naST ⟨w.heap.size + 1, 0, none⟩ (stV [108, 101]) rfl (fun w' hw' => hw'.1.nm.cell 0) ?_
            simp only [Act.put, List.setIfInBounds_toArray, List.set_cons_succ, List.set_cons_zero]
            repeat (refine mix_w1 ?_; go_big_quiet_step (fail); refine wpQuiet_nil ?_)
            refine mix_load1 hcd rfl 21 (.tmp 113) rfl naI32 ⟨w.heap.size + 1 + 1 + 1, 2, none⟩ (.int .i32 64) rfl (fun w' hw' => hw'.1.sz.cell 2) ?_
            simp only [Act.put, List.setIfInBounds_toArray, List.set_cons_succ, List.set_cons_zero]
            repeat (refine mix_w1 ?_; go_big_quiet_step (fail); refine wpQuiet_nil ?_)
            refine mix_k hcd fun Q' hQ' => ?_
            go_wp2_with fail
            refine (HN3.out _).mono ?_
            rintro e w6 ⟨rfl, hk6⟩
            have hc6 := HC.out _ w6 hcd hk6
            go_wp2_with fail
            refine hQ' _ _ hc6 ?_
            clear hQ' Q' hcd hk6 hnm hkw hgw
            repeat (refine mix_w1 ?_; go_big_quiet_step (fail); refine wpQuiet_nil ?_)
            refine mix_done ?_
            go_wp2_with fail
            first
            | (go_roundw
               case rel => exact ⟨3, rfl, by omega, by omega, hc6.1, hc6.2.1, hc6.2.2, (if_neg (by rw [HQ.out]; decide)).symm.trans HS1.out⟩
               case measure => (simp [intOf]))
            | skip
          refine wp_region_mix [.w, .w, .l, .w, .w, .w, .l, .w, .t, .t, .t] (by kernel_rfl) (by kernel_rfl) (fun W => Nm W g w.heap.size s2 ∧ Kept (fun _ => False) w W ∧ g < W.heap.size) ?_
          have hcd := HC.out w6 _ hc6 (Kept.refl _ w6).drew
          repeat (refine mix_w1 ?_; go_big_quiet_step (fail); refine wpQuiet_nil ?_)
          refine mix_load1 hcd rfl 5 (.tmp 120) rfl naU8q ⟨w.heap.size + 1 + 1, 0, none⟩ (.int .u8 212) rfl (fun w' hw' => hw'.1.op.cell 0) ?_
          simp only [Act.put, List.setIfInBounds_toArray, List.set_cons_succ, List.set_cons_zero]
          repeat (refine mix_w1 ?_; go_big_quiet_step (fail); refine wpQuiet_nil ?_)
          refine mix_load1 hcd rfl 21 (.tmp 124) rfl naI32 ⟨w.heap.size + 1 + 1 + 1, 2, none⟩ (.int .i32 64) rfl (fun w' hw' => hw'.1.sz.cell 2) ?_
          simp only [Act.put, List.setIfInBounds_toArray, List.set_cons_succ, List.set_cons_zero]
          repeat (refine mix_w1 ?_; go_big_quiet_step (fail); refine wpQuiet_nil ?_)
          repeat (refine mix_t fun Q' hQ' => ?_; go_wp2_with fail)
          refine mix_done ?_
          go_wp2_with fail
          have hR := (if_pos HQ.out).symm.trans HS1.out
          subst hR
          refine bodyPost_ret (v := .tuple #[.slice (some ⟨w6.heap.size, 0, none⟩) 1 1, .bool true]) (by simp [results, Tryz.results113, go_sem]) rfl ?_
          refine ⟨⟨_, rfl, fun l h => ?_, fun k hk => by have : w6.heap.size = k := Option.some.inj hk
                                                         have := hc6.2.1.size
                                                         omega⟩, hcd.2.1.alloc _⟩
          cases h
          exact inS_one _ ⟨212, d, 0, 0, 64⟩ rfl
    · go_wp2_with fail
      go_loopw [19] (fun kv wr => ∃ k : Int, kv = .int .i64 k ∧ 0 ≤ k ∧ k ≤ 3 ∧ Nm wr g w.heap.size s2 ∧ Kept (fun _ => False) w wr ∧ g < wr.heap.size ∧ swU s2 d (6 - k.toNat) = R) (fun kv _ => 3 - (intOf kv).toNat)
      case atStart => exact ⟨0, rfl, by omega, by omega, hnm, hkw, hgw, HS.out⟩
      case round =>
        clear HS hkw hnm hgw
        obtain ⟨k, rfl, hk0, hk3, hnm, hkw, hgw, hsw⟩ := hrel
        have hk4 : k = 0 ∨ k = 1 ∨ k = 2 ∨ k = 3 := by omega
        clear hk0 hk3
        have HS := Lib.hid hsw
        clear hsw
        rcases hk4 with rfl | rfl | rfl | rfl
        case inr.inr.inr =>
          go_wp2_with fail
          go_roundw
          case rel => exact ⟨2, rfl, by omega, by omega, hnm, hkw, hgw, HS.out⟩
          case measure => (simp [intOf])
        · have HS1 : Hid ((if (s2 == [98, 101, 49, 54]) = true then some [(⟨220, d, 0, 0, 16⟩ : In)] else swU s2 d 5) = R) := Lib.hid HS.out
          clear HS
          have hadd : ∀ W, (Op.stringOp .add ⟨#[98, 101]⟩ ⟨#[49, 54]⟩).run Tryz.prog W = .ok (stV [98, 101, 49, 54]) W := fun W => run_string_add_lists (P := Tryz.prog) (w := W) [98, 101] [49, 54] (by simp) (by simp)
          have HC := Lib.hid (fun W W' (h : Nm W g w.heap.size s2 ∧ Kept (fun _ => False) w W ∧ g < W.heap.size) (hk : Kept (fun _ => False) W W') => (⟨h.1.kept h.2.2 hk, h.2.1.trans hk (fun _ _ h => h), Nat.lt_of_lt_of_le h.2.2 hk.size⟩ : Nm W' g w.heap.size s2 ∧ Kept (fun _ => False) w W' ∧ g < W'.heap.size))
          cases q : (s2 == [98, 101, 49, 54])
          all_goals
            have HQ : Hid ((s2 == [98, 101, 49, 54]) = _) := Lib.hid q
            go_wp2_with fail
            refine wp_region_mix [.w, .w, .l, .w, .w, .l, .w, .w, .l, .w, .k, .w, .w] (by kernel_rfl) (by kernel_rfl) (fun W => Nm W g w.heap.size s2 ∧ Kept (fun _ => False) w W ∧ g < W.heap.size) ?_
            have hcd := HC.out wr _ ⟨hnm, hkw, hgw⟩ (Kept.refl _ wr).drew
            repeat (refine mix_w1 ?_; go_big_quiet_step (fail); refine wpQuiet_nil ?_)
            refine mix_load1 hcd rfl 9 (.tmp 107) rfl naST ⟨g, 2, none⟩ (stV s2) rfl (fun w' hw' => hw'.1.cell) ?_
            simp only [Act.put, List.setIfInBounds_toArray, List.set_cons_succ, List.set_cons_zero]
            repeat (refine mix_w1 ?_; go_big_quiet_step (fail); refine wpQuiet_nil ?_)
            refine mix_load1 hcd rfl 9 (.tmp 110) rfl naST ⟨w.heap.size + 1, 1, none⟩ (stV [98, 101]) rfl (fun w' hw' => hw'.1.nm.cell 1) ?_
            simp only [Act.put, List.setIfInBounds_toArray, List.set_cons_succ, List.set_cons_zero]
            repeat (refine mix_w1 ?_; go_big_quiet_step (fail); refine wpQuiet_nil ?_)
            refine mix_load1 hcd rfl 21 (.tmp 113) rfl naI32 ⟨w.heap.size + 1 + 1 + 1, 0, none⟩ (.int .i32 16) rfl (fun w' hw' => hw'.1.sz.cell 0) ?_
            simp only [Act.put, List.setIfInBounds_toArray, List.set_cons_succ, List.set_cons_zero]
            repeat (refine mix_w1 ?_; go_big_quiet_step (fail); refine wpQuiet_nil ?_)
            refine mix_k hcd fun Q' hQ' => ?_
            go_wp2_with fail
            refine (HN1.out _).mono ?_
            rintro e w6 ⟨rfl, hk6⟩
            have hc6 := HC.out _ w6 hcd hk6
            go_wp2_with fail
            refine hQ' _ _ hc6 ?_
            clear hQ' Q' hcd hk6 hnm hkw hgw
            repeat (refine mix_w1 ?_; go_big_quiet_step (fail); refine wpQuiet_nil ?_)
            refine mix_done ?_
            go_wp2_with fail
            first
            | (go_roundw
               case rel => exact ⟨1, rfl, by omega, by omega, hc6.1, hc6.2.1, hc6.2.2, (if_neg (by rw [HQ.out]; decide)).symm.trans HS1.out⟩
               case measure => (simp [intOf]))
            | skip
          refine wp_region_mix [.w, .w, .l, .w, .w, .w, .l, .w, .t, .t, .t] (by kernel_rfl) (by kernel_rfl) (fun W => Nm W g w.heap.size s2 ∧ Kept (fun _ => False) w W ∧ g < W.heap.size) ?_
          have hcd := HC.out w6 _ hc6 (Kept.refl _ w6).drew
          repeat (refine mix_w1 ?_; go_big_quiet_step (fail); refine wpQuiet_nil ?_)
          refine mix_load1 hcd rfl 5 (.tmp 120) rfl naU8q ⟨w.heap.size + 1 + 1, 1, none⟩ (.int .u8 220) rfl (fun w' hw' => hw'.1.op.cell 1) ?_
          simp only [Act.put, List.setIfInBounds_toArray, List.set_cons_succ, List.set_cons_zero]
          repeat (refine mix_w1 ?_; go_big_quiet_step (fail); refine wpQuiet_nil ?_)
          refine mix_load1 hcd rfl 21 (.tmp 124) rfl naI32 ⟨w.heap.size + 1 + 1 + 1, 0, none⟩ (.int .i32 16) rfl (fun w' hw' => hw'.1.sz.cell 0) ?_
          simp only [Act.put, List.setIfInBounds_toArray, List.set_cons_succ, List.set_cons_zero]
          repeat (refine mix_w1 ?_; go_big_quiet_step (fail); refine wpQuiet_nil ?_)
          repeat (refine mix_t fun Q' hQ' => ?_; go_wp2_with fail)
          refine mix_done ?_
          go_wp2_with fail
          have hR := (if_pos HQ.out).symm.trans HS1.out
          subst hR
          refine bodyPost_ret (v := .tuple #[.slice (some ⟨w6.heap.size, 0, none⟩) 1 1, .bool true]) (by simp [results, Tryz.results113, go_sem]) rfl ?_
          refine ⟨⟨_, rfl, fun l h => ?_, fun k hk => by have : w6.heap.size = k := Option.some.inj hk
                                                         have := hc6.2.1.size
                                                         omega⟩, hcd.2.1.alloc _⟩
          cases h
          exact inS_one _ ⟨220, d, 0, 0, 16⟩ rfl
        · have HS1 : Hid ((if (s2 == [98, 101, 51, 50]) = true then some [(⟨220, d, 0, 0, 32⟩ : In)] else swU s2 d 4) = R) := Lib.hid HS.out
          clear HS
          have hadd : ∀ W, (Op.stringOp .add ⟨#[98, 101]⟩ ⟨#[51, 50]⟩).run Tryz.prog W = .ok (stV [98, 101, 51, 50]) W := fun W => run_string_add_lists (P := Tryz.prog) (w := W) [98, 101] [51, 50] (by simp) (by simp)
          have HC := Lib.hid (fun W W' (h : Nm W g w.heap.size s2 ∧ Kept (fun _ => False) w W ∧ g < W.heap.size) (hk : Kept (fun _ => False) W W') => (⟨h.1.kept h.2.2 hk, h.2.1.trans hk (fun _ _ h => h), Nat.lt_of_lt_of_le h.2.2 hk.size⟩ : Nm W' g w.heap.size s2 ∧ Kept (fun _ => False) w W' ∧ g < W'.heap.size))
          cases q : (s2 == [98, 101, 51, 50])
          all_goals
            have HQ : Hid ((s2 == [98, 101, 51, 50]) = _) := Lib.hid q
            go_wp2_with fail
            refine wp_region_mix [.w, .w, .l, .w, .w, .l, .w, .w, .l, .w, .k, .w, .w] (by kernel_rfl) (by kernel_rfl) (fun W => Nm W g w.heap.size s2 ∧ Kept (fun _ => False) w W ∧ g < W.heap.size) ?_
            have hcd := HC.out wr _ ⟨hnm, hkw, hgw⟩ (Kept.refl _ wr).drew
            repeat (refine mix_w1 ?_; go_big_quiet_step (fail); refine wpQuiet_nil ?_)
            refine mix_load1 hcd rfl 9 (.tmp 107) rfl naST ⟨g, 2, none⟩ (stV s2) rfl (fun w' hw' => hw'.1.cell) ?_
            simp only [Act.put, List.setIfInBounds_toArray, List.set_cons_succ, List.set_cons_zero]
            repeat (refine mix_w1 ?_; go_big_quiet_step (fail); refine wpQuiet_nil ?_)
            refine mix_load1 hcd rfl 9 (.tmp 110) rfl naST ⟨w.heap.size + 1, 1, none⟩ (stV [98, 101]) rfl (fun w' hw' => hw'.1.nm.cell 1) ?_
            simp only [Act.put, List.setIfInBounds_toArray, List.set_cons_succ, List.set_cons_zero]
            repeat (refine mix_w1 ?_; go_big_quiet_step (fail); refine wpQuiet_nil ?_)
            refine mix_load1 hcd rfl 21 (.tmp 113) rfl naI32 ⟨w.heap.size + 1 + 1 + 1, 1, none⟩ (.int .i32 32) rfl (fun w' hw' => hw'.1.sz.cell 1) ?_
            simp only [Act.put, List.setIfInBounds_toArray, List.set_cons_succ, List.set_cons_zero]
            repeat (refine mix_w1 ?_; go_big_quiet_step (fail); refine wpQuiet_nil ?_)
            refine mix_k hcd fun Q' hQ' => ?_
            go_wp2_with fail
            refine (HN2.out _).mono ?_
            rintro e w6 ⟨rfl, hk6⟩
            have hc6 := HC.out _ w6 hcd hk6
            go_wp2_with fail
            refine hQ' _ _ hc6 ?_
            clear hQ' Q' hcd hk6 hnm hkw hgw
            repeat (refine mix_w1 ?_; go_big_quiet_step (fail); refine wpQuiet_nil ?_)
            refine mix_done ?_
            go_wp2_with fail
            first
            | (go_roundw
               case rel => exact ⟨2, rfl, by omega, by omega, hc6.1, hc6.2.1, hc6.2.2, (if_neg (by rw [HQ.out]; decide)).symm.trans HS1.out⟩
               case measure => (simp [intOf]))
            | skip
          refine wp_region_mix [.w, .w, .l, .w, .w, .w, .l, .w, .t, .t, .t] (by kernel_rfl) (by kernel_rfl) (fun W => Nm W g w.heap.size s2 ∧ Kept (fun _ => False) w W ∧ g < W.heap.size) ?_
          have hcd := HC.out w6 _ hc6 (Kept.refl _ w6).drew
          repeat (refine mix_w1 ?_; go_big_quiet_step (fail); refine wpQuiet_nil ?_)
          refine mix_load1 hcd rfl 5 (.tmp 120) rfl naU8q ⟨w.heap.size + 1 + 1, 1, none⟩ (.int .u8 220) rfl (fun w' hw' => hw'.1.op.cell 1) ?_
          simp only [Act.put, List.setIfInBounds_toArray, List.set_cons_succ, List.set_cons_zero]
          repeat (refine mix_w1 ?_; go_big_quiet_step (fail); refine wpQuiet_nil ?_)
          refine mix_load1 hcd rfl 21 (.tmp 124) rfl naI32 ⟨w.heap.size + 1 + 1 + 1, 1, none⟩ (.int .i32 32) rfl (fun w' hw' => hw'.1.sz.cell 1) ?_
          simp only [Act.put, List.setIfInBounds_toArray, List.set_cons_succ, List.set_cons_zero]
          repeat (refine mix_w1 ?_; go_big_quiet_step (fail); refine wpQuiet_nil ?_)
          repeat (refine mix_t fun Q' hQ' => ?_; go_wp2_with fail)
          refine mix_done ?_
          go_wp2_with fail
          have hR := (if_pos HQ.out).symm.trans HS1.out
          subst hR
          refine bodyPost_ret (v := .tuple #[.slice (some ⟨w6.heap.size, 0, none⟩) 1 1, .bool true]) (by simp [results, Tryz.results113, go_sem]) rfl ?_
          refine ⟨⟨_, rfl, fun l h => ?_, fun k hk => by have : w6.heap.size = k := Option.some.inj hk
                                                         have := hc6.2.1.size
                                                         omega⟩, hcd.2.1.alloc _⟩
          cases h
          exact inS_one _ ⟨220, d, 0, 0, 32⟩ rfl
        · have HS1 : Hid ((if (s2 == [98, 101, 54, 52]) = true then some [(⟨220, d, 0, 0, 64⟩ : In)] else swU s2 d 3) = R) := Lib.hid HS.out
          clear HS
          have hadd : ∀ W, (Op.stringOp .add ⟨#[98, 101]⟩ ⟨#[54, 52]⟩).run Tryz.prog W = .ok (stV [98, 101, 54, 52]) W := fun W => run_string_add_lists (P := Tryz.prog) (w := W) [98, 101] [54, 52] (by simp) (by simp)
          have HC := Lib.hid (fun W W' (h : Nm W g w.heap.size s2 ∧ Kept (fun _ => False) w W ∧ g < W.heap.size) (hk : Kept (fun _ => False) W W') => (⟨h.1.kept h.2.2 hk, h.2.1.trans hk (fun _ _ h => h), Nat.lt_of_lt_of_le h.2.2 hk.size⟩ : Nm W' g w.heap.size s2 ∧ Kept (fun _ => False) w W' ∧ g < W'.heap.size))
          cases q : (s2 == [98, 101, 54, 52])
          all_goals
            have HQ : Hid ((s2 == [98, 101, 54, 52]) = _) := Lib.hid q
            go_wp2_with fail
            refine wp_region_mix [.w, .w, .l, .w, .w, .l, .w, .w, .l, .w, .k, .w, .w] (by kernel_rfl) (by kernel_rfl) (fun W => Nm W g w.heap.size s2 ∧ Kept (fun _ => False) w W ∧ g < W.heap.size) ?_
            have hcd := HC.out wr _ ⟨hnm, hkw, hgw⟩ (Kept.refl _ wr).drew
            repeat (refine mix_w1 ?_; go_big_quiet_step (fail); refine wpQuiet_nil ?_)
            refine mix_load1 hcd rfl 9 (.tmp 107) rfl naST ⟨g, 2, none⟩ (stV s2) rfl (fun w' hw' => hw'.1.cell) ?_
            simp only [Act.put, List.setIfInBounds_toArray, List.set_cons_succ, List.set_cons_zero]
            repeat (refine mix_w1 ?_; go_big_quiet_step (fail); refine wpQuiet_nil ?_)
            refine mix_load1 hcd rfl 9 (.tmp 110) rfl naST ⟨w.heap.size + 1, 1, none⟩ (stV [98, 101]) rfl (fun w' hw' => hw'.1.nm.cell 1) ?_
            simp only [Act.put, List.setIfInBounds_toArray, List.set_cons_succ, List.set_cons_zero]
            repeat (refine mix_w1 ?_; go_big_quiet_step (fail); refine wpQuiet_nil ?_)
            refine mix_load1 hcd rfl 21 (.tmp 113) rfl naI32 ⟨w.heap.size + 1 + 1 + 1, 2, none⟩ (.int .i32 64) rfl (fun w' hw' => hw'.1.sz.cell 2) ?_
            simp only [Act.put, List.setIfInBounds_toArray, List.set_cons_succ, List.set_cons_zero]
            repeat (refine mix_w1 ?_; go_big_quiet_step (fail); refine wpQuiet_nil ?_)
            refine mix_k hcd fun Q' hQ' => ?_
            go_wp2_with fail
            refine (HN3.out _).mono ?_
            rintro e w6 ⟨rfl, hk6⟩
            have hc6 := HC.out _ w6 hcd hk6
            go_wp2_with fail
            refine hQ' _ _ hc6 ?_
            clear hQ' Q' hcd hk6 hnm hkw hgw
            repeat (refine mix_w1 ?_; go_big_quiet_step (fail); refine wpQuiet_nil ?_)
            refine mix_done ?_
            go_wp2_with fail
            first
            | (go_roundw
               case rel => exact ⟨3, rfl, by omega, by omega, hc6.1, hc6.2.1, hc6.2.2, (if_neg (by rw [HQ.out]; decide)).symm.trans HS1.out⟩
               case measure => (simp [intOf]))
            | skip
          refine wp_region_mix [.w, .w, .l, .w, .w, .w, .l, .w, .t, .t, .t] (by kernel_rfl) (by kernel_rfl) (fun W => Nm W g w.heap.size s2 ∧ Kept (fun _ => False) w W ∧ g < W.heap.size) ?_
          have hcd := HC.out w6 _ hc6 (Kept.refl _ w6).drew
          repeat (refine mix_w1 ?_; go_big_quiet_step (fail); refine wpQuiet_nil ?_)
          refine mix_load1 hcd rfl 5 (.tmp 120) rfl naU8q ⟨w.heap.size + 1 + 1, 1, none⟩ (.int .u8 220) rfl (fun w' hw' => hw'.1.op.cell 1) ?_
          simp only [Act.put, List.setIfInBounds_toArray, List.set_cons_succ, List.set_cons_zero]
          repeat (refine mix_w1 ?_; go_big_quiet_step (fail); refine wpQuiet_nil ?_)
          refine mix_load1 hcd rfl 21 (.tmp 124) rfl naI32 ⟨w.heap.size + 1 + 1 + 1, 2, none⟩ (.int .i32 64) rfl (fun w' hw' => hw'.1.sz.cell 2) ?_
          simp only [Act.put, List.setIfInBounds_toArray, List.set_cons_succ, List.set_cons_zero]
          repeat (refine mix_w1 ?_; go_big_quiet_step (fail); refine wpQuiet_nil ?_)
          repeat (refine mix_t fun Q' hQ' => ?_; go_wp2_with fail)
          refine mix_done ?_
          go_wp2_with fail
          have hR := (if_pos HQ.out).symm.trans HS1.out
          subst hR
          refine bodyPost_ret (v := .tuple #[.slice (some ⟨w6.heap.size, 0, none⟩) 1 1, .bool true]) (by simp [results, Tryz.results113, go_sem]) rfl ?_
          refine ⟨⟨_, rfl, fun l h => ?_, fun k hk => by have : w6.heap.size = k := Option.some.inj hk
                                                         have := hc6.2.1.size
                                                         omega⟩, hcd.2.1.alloc _⟩
          cases h
          exact inS_one _ ⟨220, d, 0, 0, 64⟩ rfl
    · go_wp2_with fail
      go_loopw [19] (fun kv wr => ∃ k : Int, kv = .int .i64 k ∧ 0 ≤ k ∧ k ≤ 3 ∧ Nm wr g w.heap.size s2 ∧ Kept (fun _ => False) w wr ∧ g < wr.heap.size ∧ swU s2 d (3 - k.toNat) = R) (fun kv _ => 3 - (intOf kv).toNat)
      case atStart => exact ⟨0, rfl, by omega, by omega, hnm, hkw, hgw, HS.out⟩
      case round =>
        clear HS hkw hnm hgw
        obtain ⟨k, rfl, hk0, hk3, hnm, hkw, hgw, hsw⟩ := hrel
        have hk4 : k = 0 ∨ k = 1 ∨ k = 2 ∨ k = 3 := by omega
        clear hk0 hk3
        have HS := Lib.hid hsw
        clear hsw
        rcases hk4 with rfl | rfl | rfl | rfl
        case inr.inr.inr =>
          go_wp2_with fail
          go_roundw
          case rel => exact ⟨3, rfl, by omega, by omega, hnm, hkw, hgw, HS.out⟩
          case measure => (simp [intOf])
        · have HS1 : Hid ((if (s2 == [115, 119, 97, 112, 49, 54]) = true then some [(⟨215, d, 0, 0, 16⟩ : In)] else swU s2 d 2) = R) := Lib.hid HS.out
          clear HS
          have hadd : ∀ W, (Op.stringOp .add ⟨#[115, 119, 97, 112]⟩ ⟨#[49, 54]⟩).run Tryz.prog W = .ok (stV [115, 119, 97, 112, 49, 54]) W := fun W => run_string_add_lists (P := Tryz.prog) (w := W) [115, 119, 97, 112] [49, 54] (by simp) (by simp)
          have HC := Lib.hid (fun W W' (h : Nm W g w.heap.size s2 ∧ Kept (fun _ => False) w W ∧ g < W.heap.size) (hk : Kept (fun _ => False) W W') => (⟨h.1.kept h.2.2 hk, h.2.1.trans hk (fun _ _ h => h), Nat.lt_of_lt_of_le h.2.2 hk.size⟩ : Nm W' g w.heap.size s2 ∧ Kept (fun _ => False) w W' ∧ g < W'.heap.size))
          cases q : (s2 == [115, 119, 97, 112, 49, 54])
          all_goals
            have HQ : Hid ((s2 == [115, 119, 97, 112, 49, 54]) = _) := Lib.hid q
            go_wp2_with fail
            refine wp_region_mix [.w, .w, .l, .w, .w, .l, .w, .w, .l, .w, .k, .w, .w] (by kernel_rfl) (by kernel_rfl) (fun W => Nm W g w.heap.size s2 ∧ Kept (fun _ => False) w W ∧ g < W.heap.size) ?_
            have hcd := HC.out wr _ ⟨hnm, hkw, hgw⟩ (Kept.refl _ wr).drew
            repeat (refine mix_w1 ?_; go_big_quiet_step (fail); refine wpQuiet_nil ?_)
            refine mix_load1 hcd rfl 9 (.tmp 107) rfl naST ⟨g, 2, none⟩ (stV s2) rfl (fun w' hw' => hw'.1.cell) ?_
            simp only [Act.put, List.setIfInBounds_toArray, List.set_cons_succ, List.set_cons_zero]
            repeat (refine mix_w1 ?_; go_big_quiet_step (fail); refine wpQuiet_nil ?_)
            refine mix_load1 hcd rfl 9 (.tmp 110) rfl naST ⟨w.heap.size + 1, 2, none⟩ (stV [115, 119, 97, 112]) rfl (fun w' hw' => hw'.1.nm.cell 2) ?_
            simp only [Act.put, List.setIfInBounds_toArray, List.set_cons_succ, List.set_cons_zero]
            repeat (refine mix_w1 ?_; go_big_quiet_step (fail); refine wpQuiet_nil ?_)
            refine mix_load1 hcd rfl 21 (.tmp 113) rfl naI32 ⟨w.heap.size + 1 + 1 + 1, 0, none⟩ (.int .i32 16) rfl (fun w' hw' => hw'.1.sz.cell 0) ?_
            simp only [Act.put, List.setIfInBounds_toArray, List.set_cons_succ, List.set_cons_zero]
            repeat (refine mix_w1 ?_; go_big_quiet_step (fail); refine wpQuiet_nil ?_)
            refine mix_k hcd fun Q' hQ' => ?_
            go_wp2_with fail
            refine (HN1.out _).mono ?_
            rintro e w6 ⟨rfl, hk6⟩
            have hc6 := HC.out _ w6 hcd hk6
            go_wp2_with fail
            refine hQ' _ _ hc6 ?_
            clear hQ' Q' hcd hk6 hnm hkw hgw
            repeat (refine mix_w1 ?_; go_big_quiet_step (fail); refine wpQuiet_nil ?_)
            refine mix_done ?_
            go_wp2_with fail
            first
            | (go_roundw
               case rel => exact ⟨1, rfl, by omega, by omega, hc6.1, hc6.2.1, hc6.2.2, (if_neg (by rw [HQ.out]; decide)).symm.trans HS1.out⟩
               case measure => (simp [intOf]))
            | skip
          refine wp_region_mix [.w, .w, .l, .w, .w, .w, .l, .w, .t, .t, .t] (by kernel_rfl) (by kernel_rfl) (fun W => Nm W g w.heap.size s2 ∧ Kept (fun _ => False) w W ∧ g < W.heap.size) ?_
          have hcd := HC.out w6 _ hc6 (Kept.refl _ w6).drew
          repeat (refine mix_w1 ?_; go_big_quiet_step (fail); refine wpQuiet_nil ?_)
          refine mix_load1 hcd rfl 5 (.tmp 120) rfl naU8q ⟨w.heap.size + 1 + 1, 2, none⟩ (.int .u8 215) rfl (fun w' hw' => hw'.1.op.cell 2) ?_
          simp only [Act.put, List.setIfInBounds_toArray, List.set_cons_succ, List.set_cons_zero]
          repeat (refine mix_w1 ?_; go_big_quiet_step (fail); refine wpQuiet_nil ?_)
          refine mix_load1 hcd rfl 21 (.tmp 124) rfl naI32 ⟨w.heap.size + 1 + 1 + 1, 0, none⟩ (.int .i32 16) rfl (fun w' hw' => hw'.1.sz.cell 0) ?_
          simp only [Act.put, List.setIfInBounds_toArray, List.set_cons_succ, List.set_cons_zero]
          repeat (refine mix_w1 ?_; go_big_quiet_step (fail); refine wpQuiet_nil ?_)
          repeat (refine mix_t fun Q' hQ' => ?_; go_wp2_with fail)
          refine mix_done ?_
          go_wp2_with fail
          have hR := (if_pos HQ.out).symm.trans HS1.out
          subst hR
          refine bodyPost_ret (v := .tuple #[.slice (some ⟨w6.heap.size, 0, none⟩) 1 1, .bool true]) (by simp [results, Tryz.results113, go_sem]) rfl ?_
          refine ⟨⟨_, rfl, fun l h => ?_, fun k hk => by have : w6.heap.size = k := Option.some.inj hk
                                                         have := hc6.2.1.size
                                                         omega⟩, hcd.2.1.alloc _⟩
          cases h
          exact inS_one _ ⟨215, d, 0, 0, 16⟩ rfl
        · have HS1 : Hid ((if (s2 == [115, 119, 97, 112, 51, 50]) = true then some [(⟨215, d, 0, 0, 32⟩ : In)] else swU s2 d 1) = R) := Lib.hid HS.out
          clear HS
          have hadd : ∀ W, (Op.stringOp .add ⟨#[115, 119, 97, 112]⟩ ⟨#[51, 50]⟩).run Tryz.prog W = .ok (stV [115, 119, 97, 112, 51, 50]) W := fun W => run_string_add_lists (P := Tryz.prog) (w := W) [115, 119, 97, 112] [51, 50] (by simp) (by simp)
          have HC := Lib.hid (fun W W' (h : Nm W g w.heap.size s2 ∧ Kept (fun _ => False) w W ∧ g < W.heap.size) (hk : Kept (fun _ => False) W W') => (⟨h.1.kept h.2.2 hk, h.2.1.trans hk (fun _ _ h => h), Nat.lt_of_lt_of_le h.2.2 hk.size⟩ : Nm W' g w.heap.size s2 ∧ Kept (fun _ => False) w W' ∧ g < W'.heap.size))
          cases q : (s2 == [115, 119, 97, 112, 51, 50])
          all_goals
            have HQ : Hid ((s2 == [115, 119, 97, 112, 51, 50]) = _) := Lib.hid q
            go_wp2_with fail
            refine wp_region_mix [.w, .w, .l, .w, .w, .l, .w, .w, .l, .w, .k, .w, .w] (by kernel_rfl) (by kernel_rfl) (fun W => Nm W g w.heap.size s2 ∧ Kept (fun _ => False) w W ∧ g < W.heap.size) ?_
            have hcd := HC.out wr _ ⟨hnm, hkw, hgw⟩ (Kept.refl _ wr).drew
            repeat (refine mix_w1 ?_; go_big_quiet_step (fail); refine wpQuiet_nil ?_)
            refine mix_load1 hcd rfl 9 (.tmp 107) rfl naST ⟨g, 2, none⟩ (stV s2) rfl (fun w' hw' => hw'.1.cell) ?_
            simp only [Act.put, List.setIfInBounds_toArray, List.set_cons_succ, List.set_cons_zero]
            repeat (refine mix_w1 ?_; go_big_quiet_step (fail); refine wpQuiet_nil ?_)
            refine mix_load1 hcd rfl 9 (.tmp 110) rfl naST ⟨w.heap.size + 1, 2, none⟩ (stV [115, 119, 97, 112]) rfl (fun w' hw' => hw'.1.nm.cell 2) ?_
            simp only [Act.put, List.setIfInBounds_toArray, List.set_cons_succ, List.set_cons_zero]
            repeat (refine mix_w1 ?_; go_big_quiet_step (fail); refine wpQuiet_nil ?_)
            refine mix_load1 hcd rfl 21 (.tmp 113) rfl naI32 ⟨w.heap.size + 1 + 1 + 1, 1, none⟩ (.int .i32 32) rfl (fun w' hw' => hw'.1.sz.cell 1) ?_
            simp only [Act.put, List.setIfInBounds_toArray, List.set_cons_succ, List.set_cons_zero]
            repeat (refine mix_w1 ?_; go_big_quiet_step (fail); refine wpQuiet_nil ?_)
            refine mix_k hcd fun Q' hQ' => ?_
            go_wp2_with fail
            refine (HN2.out _).mono ?_
            rintro e w6 ⟨rfl, hk6⟩
            have hc6 := HC.out _ w6 hcd hk6
            go_wp2_with fail
            refine hQ' _ _ hc6 ?_
            clear hQ' Q' hcd hk6 hnm hkw hgw
            repeat (refine mix_w1 ?_; go_big_quiet_step (fail); refine wpQuiet_nil ?_)
            refine mix_done ?_
            go_wp2_with fail
            first
            | (go_roundw
               case rel => exact ⟨2, rfl, by omega, by omega, hc6.1, hc6.2.1, hc6.2.2, (if_neg (by rw [HQ.out]; decide)).symm.trans HS1.out⟩
               case measure => (simp [intOf]))
            | skip
          refine wp_region_mix [.w, .w, .l, .w, .w, .w, .l, .w, .t, .t, .t] (by kernel_rfl) (by kernel_rfl) (fun W => Nm W g w.heap.size s2 ∧ Kept (fun _ => False) w W ∧ g < W.heap.size) ?_
          have hcd := HC.out w6 _ hc6 (Kept.refl _ w6).drew
          repeat (refine mix_w1 ?_; go_big_quiet_step (fail); refine wpQuiet_nil ?_)
          refine mix_load1 hcd rfl 5 (.tmp 120) rfl naU8q ⟨w.heap.size + 1 + 1, 2, none⟩ (.int .u8 215) rfl (fun w' hw' => hw'.1.op.cell 2) ?_
          simp only [Act.put, List.setIfInBounds_toArray, List.set_cons_succ, List.set_cons_zero]
          repeat (refine mix_w1 ?_; go_big_quiet_step (fail); refine wpQuiet_nil ?_)
          refine mix_load1 hcd rfl 21 (.tmp 124) rfl naI32 ⟨w.heap.size + 1 + 1 + 1, 1, none⟩ (.int .i32 32) rfl (fun w' hw' => hw'.1.sz.cell 1) ?_
          simp only [Act.put, List.setIfInBounds_toArray, List.set_cons_succ, List.set_cons_zero]
          repeat (refine mix_w1 ?_; go_big_quiet_step (fail); refine wpQuiet_nil ?_)
          repeat (refine mix_t fun Q' hQ' => ?_; go_wp2_with fail)
          refine mix_done ?_
          go_wp2_with fail
          have hR := (if_pos HQ.out).symm.trans HS1.out
          subst hR
          refine bodyPost_ret (v := .tuple #[.slice (some ⟨w6.heap.size, 0, none⟩) 1 1, .bool true]) (by simp [results, Tryz.results113, go_sem]) rfl ?_
          refine ⟨⟨_, rfl, fun l h => ?_, fun k hk => by have : w6.heap.size = k := Option.some.inj hk
                                                         have := hc6.2.1.size
                                                         omega⟩, hcd.2.1.alloc _⟩
          cases h
          exact inS_one _ ⟨215, d, 0, 0, 32⟩ rfl
        · have HS1 : Hid ((if (s2 == [115, 119, 97, 112, 54, 52]) = true then some [(⟨215, d, 0, 0, 64⟩ : In)] else swU s2 d 0) = R) := Lib.hid HS.out
          clear HS
          have hadd : ∀ W, (Op.stringOp .add ⟨#[115, 119, 97, 112]⟩ ⟨#[54, 52]⟩).run Tryz.prog W = .ok (stV [115, 119, 97, 112, 54, 52]) W := fun W => run_string_add_lists (P := Tryz.prog) (w := W) [115, 119, 97, 112] [54, 52] (by simp) (by simp)
          have HC := Lib.hid (fun W W' (h : Nm W g w.heap.size s2 ∧ Kept (fun _ => False) w W ∧ g < W.heap.size) (hk : Kept (fun _ => False) W W') => (⟨h.1.kept h.2.2 hk, h.2.1.trans hk (fun _ _ h => h), Nat.lt_of_lt_of_le h.2.2 hk.size⟩ : Nm W' g w.heap.size s2 ∧ Kept (fun _ => False) w W' ∧ g < W'.heap.size))
          cases q : (s2 == [115, 119, 97, 112, 54, 52])
          all_goals
            have HQ : Hid ((s2 == [115, 119, 97, 112, 54, 52]) = _) := Lib.hid q
            go_wp2_with fail
            refine wp_region_mix [.w, .w, .l, .w, .w, .l, .w, .w, .l, .w, .k, .w, .w] (by kernel_rfl) (by kernel_rfl) (fun W => Nm W g w.heap.size s2 ∧ Kept (fun _ => False) w W ∧ g < W.heap.size) ?_
            have hcd := HC.out wr _ ⟨hnm, hkw, hgw⟩ (Kept.refl _ wr).drew
            repeat (refine mix_w1 ?_; go_big_quiet_step (fail); refine wpQuiet_nil ?_)
            refine mix_load1 hcd rfl 9 (.tmp 107) rfl naST ⟨g, 2, none⟩ (stV s2) rfl (fun w' hw' => hw'.1.cell) ?_
            simp only [Act.put, List.setIfInBounds_toArray, List.set_cons_succ, List.set_cons_zero]
            repeat (refine mix_w1 ?_; go_big_quiet_step (fail); refine wpQuiet_nil ?_)
            refine mix_load1 hcd rfl 9 (.tmp 110) rfl naST ⟨w.heap.size + 1, 2, none⟩ (stV [115, 119, 97, 112]) rfl (fun w' hw' => hw'.1.nm.cell 2) ?_
            simp only [Act.put, List.setIfInBounds_toArray, List.set_cons_succ, List.set_cons_zero]
            repeat (refine mix_w1 ?_; go_big_quiet_step (fail); refine wpQuiet_nil ?_)
            refine mix_load1 hcd rfl 21 (.tmp 113) rfl naI32 ⟨w.heap.size + 1 + 1 + 1, 2, none⟩ (.int .i32 64) rfl (fun w' hw' => hw'.1.sz.cell 2) ?_
            simp only [Act.put, List.setIfInBounds_toArray, List.set_cons_succ, List.set_cons_zero]
            repeat (refine mix_w1 ?_; go_big_quiet_step (fail); refine wpQuiet_nil ?_)
            refine mix_k hcd fun Q' hQ' => ?_
            go_wp2_with fail
            refine (HN3.out _).mono ?_
            rintro e w6 ⟨rfl, hk6⟩
            have hc6 := HC.out _ w6 hcd hk6
            go_wp2_with fail
            refine hQ' _ _ hc6 ?_
            clear hQ' Q' hcd hk6 hnm hkw hgw
            repeat (refine mix_w1 ?_; go_big_quiet_step (fail); refine wpQuiet_nil ?_)
            refine mix_done ?_
            go_wp2_with fail
            first
            | (go_roundw
               case rel => exact ⟨3, rfl, by omega, by omega, hc6.1, hc6.2.1, hc6.2.2, (if_neg (by rw [HQ.out]; decide)).symm.trans HS1.out⟩
               case measure => (simp [intOf]))
            | skip
          refine wp_region_mix [.w, .w, .l, .w, .w, .w, .l, .w, .t, .t, .t] (by kernel_rfl) (by kernel_rfl) (fun W => Nm W g w.heap.size s2 ∧ Kept (fun _ => False) w W ∧ g < W.heap.size) ?_
          have hcd := HC.out w6 _ hc6 (Kept.refl _ w6).drew
          repeat (refine mix_w1 ?_; go_big_quiet_step (fail); refine wpQuiet_nil ?_)
          refine mix_load1 hcd rfl 5 (.tmp 120) rfl naU8q ⟨w.heap.size + 1 + 1, 2, none⟩ (.int .u8 215) rfl (fun w' hw' => hw'.1.op.cell 2) ?_
          simp only [Act.put, List.setIfInBounds_toArray, List.set_cons_succ, List.set_cons_zero]
          repeat (refine mix_w1 ?_; go_big_quiet_step (fail); refine wpQuiet_nil ?_)
          refine mix_load1 hcd rfl 21 (.tmp 124) rfl naI32 ⟨w.heap.size + 1 + 1 + 1, 2, none⟩ (.int .i32 64) rfl (fun w' hw' => hw'.1.sz.cell 2) ?_
          simp only [Act.put, List.setIfInBounds_toArray, List.set_cons_succ, List.set_cons_zero]
          repeat (refine mix_w1 ?_; go_big_quiet_step (fail); refine wpQuiet_nil ?_)
          repeat (refine mix_t fun Q' hQ' => ?_; go_wp2_with fail)
          refine mix_done ?_
          go_wp2_with fail
          have hR := (if_pos HQ.out).symm.trans HS1.out
          subst hR
          refine bodyPost_ret (v := .tuple #[.slice (some ⟨w6.heap.size, 0, none⟩) 1 1, .bool true]) (by simp [results, Tryz.results113, go_sem]) rfl ?_
          refine ⟨⟨_, rfl, fun l h => ?_, fun k hk => by have : w6.heap.size = k := Option.some.inj hk
                                                         have := hc6.2.1.size
                                                         omega⟩, hcd.2.1.alloc _⟩
          cases h
          exact inS_one _ ⟨215, d, 0, 0, 64⟩ rfl
set_option maxHeartbeats 8000000 in
set_option maxRecDepth 100000 in
theorem special_any (s0 s1 s2 s3 : List UInt8) (g cap : Nat) (d : Int) (w : World) (h : Strs w (.slice (some ⟨g, 0, none⟩) 4 cap) [s0, s1, s2, s3]) (h0 : s0.length ≤ 1000000) (h2 : s2.length ≤ 1000000) (h3 : s3.length ≤ 1000000) :
    Calls Tryz.prog 113 #[.slice (some ⟨g, 0, none⟩) 4 cap, .int .u8 d, .bool true] w fun e w' => (∃ v, e = .returned (.tuple #[v, .bool (specialS s0 s2 s3 d).isSome]) ∧ (∀ l, specialS s0 s2 s3 d = some l → InS w' v l) ∧ ∀ k, v.ownBlock = some k → w.heap.size ≤ k) ∧ Kept (fun _ => False) w w' := by
  have c0 := Strs.cell h (i := 0) (x := s0) rfl
  have c2 := Strs.cell h (i := 2) (x := s2) rfl
  have c3 := Strs.cell h (i := 3) (x := s3) rfl
  have hlt := Sl.lt h g rfl
  have HP := Lib.hid (fun W => plain_any s2 W h2)
  have HI := Lib.hid (fun W => imm_any s3 W h3)
  have HO := Lib.hid (fun W => off_any s3 2147483647 W h3 (by omega))
  have HOR : Hid (∀ v, offS s3 2147483647 = some v → -2147483648 ≤ v ∧ v ≤ 2147483647) := Lib.hid (fun v hv => by have := offS_range hv (by omega); omega)
  obtain ⟨R, hR⟩ : ∃ R, specialS s0 s2 s3 d = R := ⟨_, rfl⟩
  rw [hR]
  unfold specialS at hR
  have hk0 : Kept (fun _ => False) w (w.alloc (.cells #[.int .u8 24, .int .u8 d, .int .u8 0, .int .i16 0, .int .i32 0] 47)) := (Kept.refl _ w).alloc _
  cases q1 : (s3 == [108, 108])
  case true =>
    rw [if_pos q1] at hR
    generalize hpp : plainS s2 = pl at *
    have hplt : ∀ n, pl = some n → n < 18446744073709551616 := fun n hn => plainS_lt (hpp.trans hn)
    clear hpp HI HO HOR
    cases pl with
    | none =>
      replace HP : Hid (∀ W, Calls Tryz.prog 112 #[stV s2] W fun e w' => e = .returned (.tuple #[.int .u64 0, .bool false]) ∧ W = w') := HP
      have hR : none = R := hR
      subst hR
      go_enter Tryz.func113, Tryz.ntmps113
      go_wp2_with fail
      refine (HP.out _).mono ?_
      rintro e w1 ⟨rfl, rfl⟩
      go_wp2_with fail
      refine bodyPost_ret (v := .tuple #[.slice (some ⟨w.heap.size + 1, 0, none⟩) 2 2, .bool false]) (by simp [results, Tryz.results113, go_sem]) rfl ?_
      exact ⟨⟨_, rfl, fun l h => by (cases h), fun k hk => own_two hk⟩, ((Kept.refl _ w).alloc _).alloc _⟩
    | some n =>
      replace HP : Hid (∀ W, Calls Tryz.prog 112 #[stV s2] W fun e w' => e = .returned (.tuple #[.int .u64 (n : Int), .bool true]) ∧ W = w') := HP
      have hn := hplt n rfl
      replace hR : some [(⟨24, d, 0, 0, low32 n⟩ : In), ⟨0, 0, 0, 0, high32 n⟩] = R := hR
      subst hR
      go_enter Tryz.func113, Tryz.ntmps113
      go_wp2_with fail
      refine (HP.out _).mono ?_
      rintro e w1 ⟨rfl, rfl⟩
      go_wp2_with fail
      refine bodyPost_ret (v := .tuple #[.slice (some ⟨w.heap.size + 1, 0, none⟩) 2 2, .bool true]) (by simp [results, Tryz.results113, go_sem]) rfl ?_
      refine ⟨⟨_, rfl, fun l h => ?_, fun k hk => own_two hk⟩, ((Kept.refl _ w).alloc _).alloc _⟩
      cases h
      exact inS_two _ ⟨24, d, 0, 0, low32 n⟩ ⟨0, 0, 0, 0, high32 n⟩ (by simp)
  case false =>
  rw [if_neg (by rw [q1]; decide)] at hR
  cases q2 : (s2 == [109, 97, 112])
  case true =>
    rw [if_pos q2] at hR
    clear HP HO HOR
    generalize hpp : immS s3 = pl at *
    clear hpp
    cases pl with
    | none =>
      have hR : none = R := hR
      subst hR
      go_enter Tryz.func113, Tryz.ntmps113
      go_wp2_with fail
      refine (HI.out _).mono ?_
      rintro e w1 ⟨⟨x, rfl, hx⟩, rfl⟩
      clear hx
      go_wp2_with fail
      refine bodyPost_ret (v := .tuple #[.slice (some ⟨w.heap.size + 1, 0, none⟩) 2 2, .bool false]) (by simp [results, Tryz.results113, go_sem]) rfl ?_
      exact ⟨⟨_, rfl, fun l h => by (cases h), fun k hk => own_two hk⟩, ((Kept.refl _ w).alloc _).alloc _⟩
    | some n =>
      replace hR : some [(⟨24, d, 1, 0, n⟩ : In), zeroI] = R := hR
      subst hR
      go_enter Tryz.func113, Tryz.ntmps113
      go_wp2_with fail
      refine (HI.out _).mono ?_
      rintro e w1 ⟨⟨x, rfl, hx⟩, rfl⟩
      obtain rfl := hx n rfl
      clear hx
      go_wp2_with fail
      refine bodyPost_ret (v := .tuple #[.slice (some ⟨w.heap.size + 1, 0, none⟩) 2 2, .bool true]) (by simp [results, Tryz.results113, go_sem]) rfl ?_
      refine ⟨⟨_, rfl, fun l h => ?_, fun k hk => own_two hk⟩, ((Kept.refl _ w).alloc _).alloc _⟩
      cases h
      exact inS_two _ ⟨24, d, 1, 0, x⟩ zeroI (by simp)
  case false =>
  rw [if_neg (by rw [q2]; decide)] at hR
  cases q3 : (s2 == [102, 117, 110, 99])
  case true =>
    rw [if_pos q3] at hR
    clear HP HI
    generalize hpp : offS s3 2147483647 = pl at *
    clear hpp
    cases pl with
    | none =>
      have hR : none = R := hR
      subst hR
      go_enter Tryz.func113, Tryz.ntmps113
      go_wp2_with fail
      refine (HO.out _).mono ?_
      rintro e w1 ⟨⟨x, rfl, hx, hx1, hx2⟩, rfl⟩
      clear hx
      go_wp2_with fail
      refine bodyPost_ret (v := .tuple #[.slice (some ⟨w.heap.size + 1, 0, none⟩) 2 2, .bool false]) (by simp [results, Tryz.results113, go_sem]) rfl ?_
      exact ⟨⟨_, rfl, fun l h => by (cases h), fun k hk => own_two hk⟩, ((Kept.refl _ w).alloc _).alloc _⟩
    | some n =>
      replace hR : some [(⟨24, d, 4, 0, n⟩ : In), zeroI] = R := hR
      subst hR
      go_enter Tryz.func113, Tryz.ntmps113
      go_wp2_with fail
      refine (HO.out _).mono ?_
      rintro e w1 ⟨⟨x, rfl, hx, hx1, hx2⟩, rfl⟩
      obtain rfl := hx n rfl
      clear hx
      have hxr := HOR.out x rfl
      go_wp2_with fail
      refine bodyPost_ret (v := .tuple #[.slice (some ⟨w.heap.size + 1, 0, none⟩) 2 2, .bool true]) (by simp [results, Tryz.results113, go_sem]) rfl ?_
      refine ⟨⟨_, rfl, fun l h => ?_, fun k hk => own_two hk⟩, ((Kept.refl _ w).alloc _).alloc _⟩
      cases h
      exact inS_two _ ⟨24, d, 4, 0, x⟩ zeroI (by simp)
  case false =>
  rw [if_neg (by rw [q3]; decide)] at hR
  cases q4 : (s3 == s0)
  case false =>
    rw [if_pos q4] at hR
    subst hR
    have q4n : (!(s3 == s0)) = true := by rw [q4]; rfl
    clear HP HI HO HOR
    go_enter Tryz.func113, Tryz.ntmps113
    go_wp2_with fail
    refine wp_region_mix0 [.w, .w, .l, .w, .w, .l, .w] (by kernel_rfl) (by kernel_rfl) ?_
    repeat (first
      | (refine mix_w1 ?_; go_big_quiet_step (fail); refine wpQuiet_nil ?_)
      | (refine mix_l1 rfl ?_; go_big_quiet_step (fail); refine wpQuiet_nil ?_))
    refine mix_done ?_
    go_wp2_with fail
    refine bodyPost_ret (v := .tuple #[.slice none 0 0, .bool false]) (by simp [results, Tryz.results113, go_sem]) rfl ?_
    exact ⟨⟨_, rfl, fun l h => by (cases h), fun k hk => own_none hk⟩, ((Kept.refl _ w).alloc _).drew⟩
  case true =>
  rw [if_neg (by rw [q4]; decide)] at hR
  exact special_names s0 s2 s3 g cap d R w c0 c2 c3 hlt q1 q2 q3 q4 hR

end Go.Proofs.YtlkgmcacbfoijaaGreat

