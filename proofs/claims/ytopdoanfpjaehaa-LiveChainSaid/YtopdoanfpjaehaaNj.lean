import Derived.Test.YtopdoanfpjaehaaNh
import Derived.Test.YtopdoanfpjaehaaJs
import Derived.Test.YtopdoanfpjaehaaJo
import Derived.Test.YtopdoanfpjaehaaJp
set_option linter.unusedSimpArgs false
set_option linter.unusedVariables false
namespace Go.Proofs.Ytopdoanfpjaehaa
open Go.RowKit

/-! ### the document's helpers -/
def tabR : Array Value := tabV.extract 10 290
def tabRparts : List (Nat × Value) := [(0, .agg (prL 1)), (1, .agg (prL 2)), (2, .agg (prL 3)), (3, .agg (prL 4)), (4, .agg (prL 5)), (5, .agg (prL 6)), (6, .agg (prL 7)), (7, .agg (prL 8)), (8, .agg (prL 9)), (9, .agg (prL 10)), (10, .agg (prL 11)), (11, .agg (prL 12)), (12, .agg (prL 13)), (13, .agg (prL 14)), (14, .agg (prL 15)), (15, .agg (prL 16)), (16, .agg (prL 17)), (17, .agg (prL 18)), (18, .agg (prL 19)), (19, .agg (prL 20)), (20, .agg (prL 21)), (21, .agg (prL 22)), (22, .agg (prL 23)), (23, .agg (prL 24)), (24, .agg (prL 25)), (25, .agg (prL 26)), (26, .agg (prL 27)), (27, .agg (prL 28))]
theorem tabR_build (w : World) : (Instr.build 82 tabRparts.toArray).run Try.prog w = .ok (.agg tabR) w := by kernel_rfl
theorem tabR_size : tabR.size = 280 := by kernel_rfl
theorem tabR_one : ∀ y ∈ tabR.toList, y.oneCell' = true := by
  have : tabR.toList.all (fun y => y.oneCell') = true := by kernel_rfl
  exact List.all_eq_true.1 this
theorem tabRc1 : tabR.extract 0 10 = prL 1 := by kernel_rfl
theorem tabRc2 : tabR.extract 10 20 = prL 2 := by kernel_rfl
theorem tabRc3 : tabR.extract 20 30 = prL 3 := by kernel_rfl
theorem tabRc4 : tabR.extract 30 40 = prL 4 := by kernel_rfl
theorem tabRc5 : tabR.extract 40 50 = prL 5 := by kernel_rfl
theorem tabRc6 : tabR.extract 50 60 = prL 6 := by kernel_rfl
theorem tabRc7 : tabR.extract 60 70 = prL 7 := by kernel_rfl
theorem tabRc8 : tabR.extract 70 80 = prL 8 := by kernel_rfl
theorem tabRc9 : tabR.extract 80 90 = prL 9 := by kernel_rfl
theorem tabRc10 : tabR.extract 90 100 = prL 10 := by kernel_rfl
theorem tabRc11 : tabR.extract 100 110 = prL 11 := by kernel_rfl
theorem tabRc12 : tabR.extract 110 120 = prL 12 := by kernel_rfl
theorem tabRc13 : tabR.extract 120 130 = prL 13 := by kernel_rfl
theorem tabRc14 : tabR.extract 130 140 = prL 14 := by kernel_rfl
theorem tabRc15 : tabR.extract 140 150 = prL 15 := by kernel_rfl
theorem tabRc16 : tabR.extract 150 160 = prL 16 := by kernel_rfl
theorem tabRc17 : tabR.extract 160 170 = prL 17 := by kernel_rfl
theorem tabRc18 : tabR.extract 170 180 = prL 18 := by kernel_rfl
theorem tabRc19 : tabR.extract 180 190 = prL 19 := by kernel_rfl
theorem tabRc20 : tabR.extract 190 200 = prL 20 := by kernel_rfl
theorem tabRc21 : tabR.extract 200 210 = prL 21 := by kernel_rfl
theorem tabRc22 : tabR.extract 210 220 = prL 22 := by kernel_rfl
theorem tabRc23 : tabR.extract 220 230 = prL 23 := by kernel_rfl
theorem tabRc24 : tabR.extract 230 240 = prL 24 := by kernel_rfl
theorem tabRc25 : tabR.extract 240 250 = prL 25 := by kernel_rfl
theorem tabRc26 : tabR.extract 250 260 = prL 26 := by kernel_rfl
theorem tabRc27 : tabR.extract 260 270 = prL 27 := by kernel_rfl
theorem tabRc28 : tabR.extract 270 280 = prL 28 := by kernel_rfl
theorem tabR_at (m : Nat) (h : m < 28) (k : Nat) (hk : k < 10) : tabR[m * 10 + k]? = (prL (m + 1))[k]? := by
  have e : tabR.extract (m * 10) ((m + 1) * 10) = prL (m + 1) := by
    have : m = 0 ∨ m = 1 ∨ m = 2 ∨ m = 3 ∨ m = 4 ∨ m = 5 ∨ m = 6 ∨ m = 7 ∨ m = 8 ∨ m = 9 ∨ m = 10 ∨ m = 11 ∨ m = 12 ∨ m = 13 ∨ m = 14 ∨ m = 15 ∨ m = 16 ∨ m = 17 ∨ m = 18 ∨ m = 19 ∨ m = 20 ∨ m = 21 ∨ m = 22 ∨ m = 23 ∨ m = 24 ∨ m = 25 ∨ m = 26 ∨ m = 27 := by omega
    rcases this with rfl | rfl | rfl | rfl | rfl | rfl | rfl | rfl | rfl | rfl | rfl | rfl | rfl | rfl | rfl | rfl | rfl | rfl | rfl | rfl | rfl | rfl | rfl | rfl | rfl | rfl | rfl | rfl
    · exact tabRc1
    · exact tabRc2
    · exact tabRc3
    · exact tabRc4
    · exact tabRc5
    · exact tabRc6
    · exact tabRc7
    · exact tabRc8
    · exact tabRc9
    · exact tabRc10
    · exact tabRc11
    · exact tabRc12
    · exact tabRc13
    · exact tabRc14
    · exact tabRc15
    · exact tabRc16
    · exact tabRc17
    · exact tabRc18
    · exact tabRc19
    · exact tabRc20
    · exact tabRc21
    · exact tabRc22
    · exact tabRc23
    · exact tabRc24
    · exact tabRc25
    · exact tabRc26
    · exact tabRc27
    · exact tabRc28
  rw [← e, Array.getElem?_extract, if_pos (by rw [tabR_size]; omega)]
theorem blk_new' (w : World) (t : TypeId) (cs : Array Value) {g : Nat} (hg : g = w.heap.size) : Blk (w.alloc (.cells cs t)) g t cs := by subst hg; exact Blk.new w t cs
theorem infoTR : (Try.prog.info? 82).map (·.size) = some 280 := by kernel_rfl
set_option maxHeartbeats 16000000 in
set_option maxRecDepth 100000 in
theorem rOf_any (n : Int) (w : World) : Calls Try.prog 29 #[.int .i64 n] w fun e w' => e = .returned (.tuple #[.agg (prL n.toNat), .int .i64 (pofE n)]) ∧ Kept (fun _ => False) w w' := by
  have HT := Lib.hid tabR_build
  obtain ⟨i0, hi0, hi1⟩ := Option.map_eq_some_iff.1 infoPr
  obtain ⟨i1, hi2, hi3⟩ := Option.map_eq_some_iff.1 infoTR
  have hb := Blk.new w 63 (prV .empty 0 0 0 0 0 0 0 false false)
  have hkn : Kept (fun _ => False) w (w.alloc (.cells (prV .empty 0 0 0 0 0 0 0 false false) 63)) := (Kept.refl _ w).alloc _
  go_enter Try.func29, Try.ntmps29
  go_upto_region 4 with (first
    | (refine wpList_storeBlk rfl _ _ 82 rfl hi2 (w.heap.size + 1) 82 _ tabR rfl rfl (by rw [hi3, tabR_size]) ?os tabR_one (blk_new' _ _ _ (by show _ = (Array.push _ _).size; rw [Array.size_push])) ?hk; (case os => rw [tabR_size]; rfl); intro w6 hb6 hk6)
    | (refine wpList_buildV rfl 82 _ rfl tabRparts rfl (.agg tabR) HT.out ?_))
  have hb2 := hk6.blk (fun e => by have e : w.heap.size = w.heap.size + 1 := e; omega) (hb.alloc _)
  have hk2 := (hkn.alloc _).trans hk6 (fun k hk e => by have e : k = w.heap.size + 1 := e; omega)
  clear hk6 hkn hb HT
  by_cases h : n < 1 ∨ 28 < n
  case pos =>
    have heq : (Ending.returned (.tuple #[.agg (prV .empty 0 0 0 0 0 0 0 false false), .int .i64 130])) = .returned (.tuple #[.agg (prL n.toNat), .int .i64 (pofE n)]) := by rw [prL_out h, show pofE n = 130 from if_pos h]
    by_cases h1 : n < 1
    all_goals
      go_wp2_with (refine wpList_storeBlk rfl _ _ 63 rfl hi0 w.heap.size 63 (prV .empty 0 0 0 0 0 0 0 false false) (prV .empty 0 0 0 0 0 0 0 false false) rfl rfl (by rw [hi1]; rfl) rfl (by intro y hy; simp at hy; rcases hy with rfl | rfl | rfl <;> rfl) hb2 ?_; intro w7 hb7 hk7)
      refine bodyPost_ret (v := .tuple #[.agg (prV .empty 0 0 0 0 0 0 0 false false), .int .i64 130]) (results_cell_tmp rfl _ _ w.heap.size _ _ (0, 0) _ _ rfl rfl hb7 Try.underlying63 rfl (by kernel_rfl)) rfl ⟨heq, ?_⟩
      exact hk2.trans hk7 (fun k hk e => by have e : k = w.heap.size := e; omega)
  case neg =>
    obtain ⟨m, rfl⟩ : ∃ m : Nat, n = (m : Int) + 1 := ⟨(n - 1).toNat, by omega⟩
    have hm : m < 28 := by omega
    have hcell := fun k (hk : k < 10) => (hb6.cell (m * 10 + k)).trans (tabR_at m hm k hk)
    have hsz := prL_size (m + 1)
    have hone := prL_one (m + 1)
    obtain ⟨nm, a0, a1, a2, a3, a4, ret, maps, ac, re, hpr, -⟩ := prL_args (m + 1)
    have heq : (Ending.returned (.tuple #[.agg (prV nm a0 a1 a2 a3 a4 ret maps ac re), .int .i64 0])) = .returned (.tuple #[.agg (prL ((m : Int) + 1).toNat), .int .i64 (pofE ((m : Int) + 1))]) := by rw [show pofE ((m : Int) + 1) = 0 from if_neg h, show ((m : Int) + 1).toNat = m + 1 from by omega, hpr]
    rw [hpr] at hcell hsz hone
    have c0 : w6.cell? ⟨w.heap.size + 1, m * 10, none⟩ = some (.string nm) := hcell 0 (by omega)
    have c1 : w6.cell? ⟨w.heap.size + 1, m * 10 + 1, none⟩ = some (.int .i64 a0) := hcell 1 (by omega)
    have c2 : w6.cell? ⟨w.heap.size + 1, m * 10 + 2, none⟩ = some (.int .i64 a1) := hcell 2 (by omega)
    have c3 : w6.cell? ⟨w.heap.size + 1, m * 10 + 3, none⟩ = some (.int .i64 a2) := hcell 3 (by omega)
    have c4 : w6.cell? ⟨w.heap.size + 1, m * 10 + 4, none⟩ = some (.int .i64 a3) := hcell 4 (by omega)
    have c5 : w6.cell? ⟨w.heap.size + 1, m * 10 + 5, none⟩ = some (.int .i64 a4) := hcell 5 (by omega)
    have c6 : w6.cell? ⟨w.heap.size + 1, m * 10 + 6, none⟩ = some (.int .i64 ret) := hcell 6 (by omega)
    have c7 : w6.cell? ⟨w.heap.size + 1, m * 10 + 7, none⟩ = some (.int .i64 maps) := hcell 7 (by omega)
    have c8 : w6.cell? ⟨w.heap.size + 1, m * 10 + 8, none⟩ = some (.bool ac) := hcell 8 (by omega)
    have c9 : w6.cell? ⟨w.heap.size + 1, m * 10 + 9, none⟩ = some (.bool re) := hcell 9 (by omega)
    clear hcell hpr
    go_wp2_with (refine wpList_storeBlk rfl _ _ 63 rfl hi0 w.heap.size 63 (prV .empty 0 0 0 0 0 0 0 false false) (prV nm a0 a1 a2 a3 a4 ret maps ac re) rfl rfl (by rw [hi1]; rfl) rfl hone hb2 ?_; intro w7 hb7 hk7)
    refine bodyPost_ret (v := .tuple #[.agg (prV nm a0 a1 a2 a3 a4 ret maps ac re), .int .i64 0]) (results_cell_tmp rfl _ _ w.heap.size _ _ (0, 0) _ _ rfl rfl hb7 Try.underlying63 rfl (by kernel_rfl)) rfl ⟨heq, ?_⟩
    exact hk2.trans hk7 (fun k hk e => by have e : k = w.heap.size := e; omega)

end Go.Proofs.Ytopdoanfpjaehaa
set_option linter.unusedSimpArgs false
set_option linter.unusedVariables false
namespace Go.Proofs.Ytopdoanfpjaehaa
open Go.RowKit

/-! ### the document's Reads and Writes -/
set_option maxHeartbeats 4000000 in
set_option maxRecDepth 100000 in
theorem rCount_any (n : Nat) (w : World) : Calls Try.prog 30 #[.agg (prL n)] w fun e w' => e = .returned (.int .i64 (cntN n)) ∧ Kept (fun _ => False) w w' := by
  obtain ⟨nm, a0, a1, a2, a3, a4, ret, maps, ac, re, hpr, ha0, ha1, ha2, ha3, ha4⟩ := prL_args n
  have hc4 := cntN_le n
  rw [hpr]
  generalize cntN n = c at *
  have HA : Hid ((a0 != 0) = decide (0 < c) ∧ (a1 != 0) = decide (1 < c) ∧ (a2 != 0) = decide (2 < c) ∧ (a3 != 0) = decide (3 < c) ∧ (a4 != 0) = decide (4 < c)) := Lib.hid ⟨ha0, ha1, ha2, ha3, ha4⟩
  clear hpr ha0 ha1 ha2 ha3 ha4
  go_enter Try.func30, Try.ntmps30
  go_wp2_with fail
  go_loopw [3] (fun iv wr => ∃ j : Int, iv = .int .i64 j ∧ 0 ≤ j ∧ j ≤ c ∧ w.alloc (.cells (prV nm a0 a1 a2 a3 a4 ret maps ac re) 63) = wr) (fun iv _ => 5 - (intOf iv).toNat)
  case atStart => exact ⟨0, rfl, by omega, by omega, rfl⟩
  case round =>
    obtain ⟨j, rfl, hj0, hj, rfl⟩ := hrel
    have hj6 : j = 0 ∨ j = 1 ∨ j = 2 ∨ j = 3 ∨ j = 4 := by omega
    clear hj0
    rcases hj6 with rfl | rfl | rfl | rfl | rfl
    · have hq := HA.out.1
      cases hd : decide (0 < c)
      case false =>
        rw [hd] at hq
        go_wp2_with fail
        have : c = 0 := by have := of_decide_eq_false hd; omega
        subst this
        go_ret
        exact ⟨rfl, (Kept.refl _ w).alloc _⟩
      case true =>
        rw [hd] at hq
        go_wp2_with fail
        go_roundw
        case rel => exact ⟨1, rfl, by omega, by have := of_decide_eq_true hd; omega, by first | trivial | rfl⟩
        case measure => simp [intOf]
    · have hq := HA.out.2.1
      cases hd : decide (1 < c)
      case false =>
        rw [hd] at hq
        go_wp2_with fail
        have : c = 1 := by have := of_decide_eq_false hd; omega
        subst this
        go_ret
        exact ⟨rfl, (Kept.refl _ w).alloc _⟩
      case true =>
        rw [hd] at hq
        go_wp2_with fail
        go_roundw
        case rel => exact ⟨2, rfl, by omega, by have := of_decide_eq_true hd; omega, by first | trivial | rfl⟩
        case measure => simp [intOf]
    · have hq := HA.out.2.2.1
      cases hd : decide (2 < c)
      case false =>
        rw [hd] at hq
        go_wp2_with fail
        have : c = 2 := by have := of_decide_eq_false hd; omega
        subst this
        go_ret
        exact ⟨rfl, (Kept.refl _ w).alloc _⟩
      case true =>
        rw [hd] at hq
        go_wp2_with fail
        go_roundw
        case rel => exact ⟨3, rfl, by omega, by have := of_decide_eq_true hd; omega, by first | trivial | rfl⟩
        case measure => simp [intOf]
    · have hq := HA.out.2.2.2.1
      cases hd : decide (3 < c)
      case false =>
        rw [hd] at hq
        go_wp2_with fail
        have : c = 3 := by have := of_decide_eq_false hd; omega
        subst this
        go_ret
        exact ⟨rfl, (Kept.refl _ w).alloc _⟩
      case true =>
        rw [hd] at hq
        go_wp2_with fail
        go_roundw
        case rel => exact ⟨4, rfl, by omega, by have := of_decide_eq_true hd; omega, by first | trivial | rfl⟩
        case measure => simp [intOf]
    · have hq := HA.out.2.2.2.2
      cases hd : decide (4 < c)
      case false =>
        rw [hd] at hq
        go_wp2_with fail
        have : c = 4 := by have := of_decide_eq_false hd; omega
        subst this
        go_ret
        exact ⟨rfl, (Kept.refl _ w).alloc _⟩
      case true =>
        rw [hd] at hq
        go_wp2_with fail
        go_roundw
        case rel => exact ⟨5, rfl, by omega, by have := of_decide_eq_true hd; omega, by first | trivial | rfl⟩
        case measure => simp [intOf]
theorem cmp6 {x : In} (hk : knownB x = true) (h6 : clsI x = 6) : cmpR x = true := by
  have e0 : codeI x ≠ 0 := fun h0 => by
    unfold knownB jumpB wholeJ at hk
    rw [h6, h0] at hk
    simp at hk
  have e8 : codeI x ≠ 8 := fun h0 => by
    unfold knownB jumpB wholeJ at hk
    rw [h6, h0] at hk
    simp at hk
  have e9 : codeI x ≠ 9 := fun h0 => by
    unfold knownB jumpB wholeJ at hk
    rw [h6, h0] at hk
    simp at hk
  unfold cmpR
  simp [h6, e0, e8, e9]
def docJ (x : In) : Nat := if cmpR x = true then bitN x.dst ||| secN x else if (codeI x == 9) = true then 1 else if (codeI x == 8) = true then (if (x.src == 1) = true then 62 else protN x.imm) else 0
theorem docJ_eq {x : In} (h : InOk x) (hk : knownB x = true) (hc : clsI x = 5 ∨ clsI x = 6) : docJ x = readsN x := by
  rcases hc with hc | hc
  · have e8 := isR8 h hk
    have e9 := isR9 h hk
    have e0 := isR0 h hk
    unfold isR at e8 e9 e0
    have hcc : (clsI x == 5) = true := by rw [hc]; rfl
    rw [hcc, Bool.true_and] at e8 e9 e0
    have er : readsN x = jumpN x := by unfold readsN; rw [hc]; rfl
    rw [er]
    have ec : cmpR x = ((((x.op != 5)) && (x.op != 133)) && (x.op != 149)) := by
      unfold cmpR
      rw [hcc]
      simp only [bne, Bool.true_or, Bool.true_and]
      rw [e0, e8, e9]
    unfold docJ jumpN
    rw [ec, e8, e9]
    by_cases h149 : x.op = 149
    · rw [h149]; rfl
    by_cases h5 : x.op = 5
    · rw [h5]; rfl
    by_cases h133 : x.op = 133
    · rw [h133]; rfl
    have b1 : (x.op == 149) = false := by simpa using h149
    have b2 : (x.op == 5) = false := by simpa using h5
    have b3 : (x.op == 133) = false := by simpa using h133
    simp only [bne, b1, b2, b3]
    rfl
  · have ec := cmp6 hk hc
    unfold docJ readsN
    rw [ec, hc]
    rfl
theorem protN_out {n : Int} (h : n < 1 ∨ 28 < n) : protN n = 0 := by
  have : cntN n.toNat = 0 := by
    unfold cntN
    split <;> first | rfl | omega
  unfold protN
  rw [this]
theorem secN_t {x : In} (h : xB x = true) : secN x = bitN x.src := by unfold secN; rw [if_pos h]
theorem secN_f {x : In} (h : xB x = false) : secN x = 0 := by unfold secN; rw [if_neg (by rw [h]; decide)]
set_option maxHeartbeats 16000000 in
set_option maxRecDepth 100000 in
theorem rReads_any (x : In) (w : World) (hx : InOk x) : Calls Try.prog 10 #[.agg (inVals x)] w fun e w' => e = .returned (.tuple #[.int .u16 (readsR x), .bool (rightB x)]) ∧ Kept (fun _ => False) w w' := by
  have HK := Lib.hid (fun W => rknown_any x W hx)
  have hbB := Blk.new w 26 (inVals x)
  have hkB : Kept (fun _ => False) w (w.alloc (.cells (inVals x) 26)) := (Kept.refl _ w).alloc _
  cases hr : rightB x
  case false =>
    have e0 : readsR x = 0 := by unfold readsR; rw [if_neg (by rw [hr]; decide)]
    rw [e0]
    unfold rightB at hr
    obtain ⟨kn, hkn⟩ : ∃ kn, knownB x = kn := ⟨_, rfl⟩
    rw [hkn] at HK hr
    cases kn
    case false =>
      clear hr
      go_enter Try.func10, Try.ntmps10
      go_wp2_with fail
      refine (HK.out _).mono ?_
      rintro e w1 ⟨rfl, hk1⟩
      go_wp2_with fail
      go_ret2
      exact ⟨rfl, hkB.trans hk1 (fun _ _ h => h)⟩
    case true =>
      have hgt : 10 < x.dst ∨ 10 < x.src := by
        simp at hr
        omega
      clear hr
      by_cases hd : 10 < x.dst
      all_goals
        have hd2 : decide (10 < x.dst) = decide (10 < x.dst) := rfl
        go_enter Try.func10, Try.ntmps10
        go_wp2_with fail
        refine (HK.out _).mono ?_
        rintro e w1 ⟨rfl, hk1⟩
        have hb1 := hk1.blk (fun h => h) hbB
        have x0 := hb1.cell 0
        have x1 := hb1.cell 1
        have x2 := hb1.cell 2
        have x3 := hb1.cell 3
        have x4 := hb1.cell 4
        go_wp2_with fail
        go_ret2
        exact ⟨rfl, hkB.trans hk1 (fun _ _ h => h)⟩
  case true =>
    have er : readsR x = readsN x := by unfold readsR; rw [if_pos hr]
    rw [er]
    obtain ⟨hd, hs⟩ := rightB_regs hr
    have hkn : knownB x = true := by
      unfold rightB at hr
      simp at hr
      exact hr.1
    rw [hkn] at HK
    have HD := Lib.hid (fun W => rbit_any x.dst W ⟨hx.dst.1, hd⟩)
    have HS := Lib.hid (fun W => rbit_any x.src W ⟨hx.src.1, hs⟩)
    have HO := Lib.hid (fun W => rcode_any x W hx)
    have HX := Lib.hid (fun W => rx_any x W hx)
    have HC := Lib.hid (fun W => rclass_any x W hx)
    have HM := Lib.hid (fun W => rcompares_any x W hx)
    have HP := Lib.hid (fun W => rOf_any x.imm W)
    have HN := Lib.hid (fun W => rCount_any x.imm.toNat W)
    have hld := bitN_lt hd
    have hls := bitN_lt hs
    have hor2 := bits_or_u16_nat (show bitN x.dst < 65536 by omega) (show bitN x.src < 65536 by omega)
    have hor3 : bits .or .u16 0 (bitN x.src : Int) = ((bitN x.src : Nat) : Int) := by
      have := bits_or_u16_nat (show 0 < 65536 by omega) (show bitN x.src < 65536 by omega)
      rw [Nat.zero_or] at this
      exact this
    have him := hx.imm
    have hxd := hx.dst
    have hxs := hx.src
    have hcs : clsI x = 0 ∨ clsI x = 1 ∨ clsI x = 2 ∨ clsI x = 3 ∨ clsI x = 4 ∨ clsI x = 7 ∨ (clsI x = 5 ∨ clsI x = 6) := by unfold clsI; omega
    have EJ := Lib.hid (docJ_eq hx hkn)
    have hrn : Hid (readsN x = readsN x) := Lib.hid rfl
    obtain ⟨r, hrr⟩ : ∃ r, readsN x = r := ⟨_, rfl⟩
    rw [hrr] at EJ ⊢
    have HR := Lib.hid hrr
    clear hrr hrn er hr hkn
    rcases hcs with hcl | hcl | hcl | hcl | hcl | hcl | hcl
    · rw [hcl] at HC
      have hr : r = 0 := by rw [← HR.out]; unfold readsN; rw [hcl]; rfl
      clear HR EJ hcl
      subst hr
      go_enter Try.func10, Try.ntmps10
      go_wp2_with fail
      refine (HK.out _).mono ?_
      rintro e w1 ⟨rfl, hk1⟩
      have hb1 := hk1.blk (fun h => h) hbB
      have x0 := hb1.cell 0
      have x1 := hb1.cell 1
      have x2 := hb1.cell 2
      have x3 := hb1.cell 3
      have x4 := hb1.cell 4
      have hlt1 := hb1.lt
      have hlt2 : w.heap.size < w1.heap.size + 1 := by omega
      have hlt3 : w.heap.size < w1.heap.size + 1 + 1 := by omega
      have hlt4 : w.heap.size < w1.heap.size + 1 + 1 + 1 := by omega
      have hK1 := hkB.trans hk1 (fun _ _ h => h)
      go_wp2_with (first
        | (go_at_call 24; refine (HO.out _).mono ?_; rintro e w2 ⟨rfl, rfl⟩)
        | (go_at_call 25; refine (HX.out _).mono ?_; rintro e w2 ⟨rfl, rfl⟩)
        | (go_at_call 26; refine (HC.out _).mono ?_; rintro e w2 ⟨rfl, rfl⟩)
        | (go_at_call 27; refine (HD.out _).mono ?_; rintro e w2 ⟨rfl, rfl⟩)
        | (go_at_call 27; refine (HS.out _).mono ?_; rintro e w2 ⟨rfl, rfl⟩))
      go_ret2
      exact ⟨rfl, by repeat (first | exact hK1 | refine Kept.alloc ?_ _ | refine Kept.drew ?_)⟩
    · rw [hcl] at HC
      have hr : r = bitN x.src := by rw [← HR.out]; unfold readsN; rw [hcl]; rfl
      clear HR EJ hcl
      subst hr
      go_enter Try.func10, Try.ntmps10
      go_wp2_with fail
      refine (HK.out _).mono ?_
      rintro e w1 ⟨rfl, hk1⟩
      have hb1 := hk1.blk (fun h => h) hbB
      have x0 := hb1.cell 0
      have x1 := hb1.cell 1
      have x2 := hb1.cell 2
      have x3 := hb1.cell 3
      have x4 := hb1.cell 4
      have hlt1 := hb1.lt
      have hlt2 : w.heap.size < w1.heap.size + 1 := by omega
      have hlt3 : w.heap.size < w1.heap.size + 1 + 1 := by omega
      have hlt4 : w.heap.size < w1.heap.size + 1 + 1 + 1 := by omega
      have hK1 := hkB.trans hk1 (fun _ _ h => h)
      go_wp2_with (first
        | (go_at_call 24; refine (HO.out _).mono ?_; rintro e w2 ⟨rfl, rfl⟩)
        | (go_at_call 25; refine (HX.out _).mono ?_; rintro e w2 ⟨rfl, rfl⟩)
        | (go_at_call 26; refine (HC.out _).mono ?_; rintro e w2 ⟨rfl, rfl⟩)
        | (go_at_call 27; refine (HD.out _).mono ?_; rintro e w2 ⟨rfl, rfl⟩)
        | (go_at_call 27; refine (HS.out _).mono ?_; rintro e w2 ⟨rfl, rfl⟩))
      go_ret2
      exact ⟨rfl, by repeat (first | exact hK1 | refine Kept.alloc ?_ _ | refine Kept.drew ?_)⟩
    · rw [hcl] at HC
      have hr : r = bitN x.dst := by rw [← HR.out]; unfold readsN; rw [hcl]; rfl
      clear HR EJ hcl
      subst hr
      go_enter Try.func10, Try.ntmps10
      go_wp2_with fail
      refine (HK.out _).mono ?_
      rintro e w1 ⟨rfl, hk1⟩
      have hb1 := hk1.blk (fun h => h) hbB
      have x0 := hb1.cell 0
      have x1 := hb1.cell 1
      have x2 := hb1.cell 2
      have x3 := hb1.cell 3
      have x4 := hb1.cell 4
      have hlt1 := hb1.lt
      have hlt2 : w.heap.size < w1.heap.size + 1 := by omega
      have hlt3 : w.heap.size < w1.heap.size + 1 + 1 := by omega
      have hlt4 : w.heap.size < w1.heap.size + 1 + 1 + 1 := by omega
      have hK1 := hkB.trans hk1 (fun _ _ h => h)
      go_wp2_with (first
        | (go_at_call 24; refine (HO.out _).mono ?_; rintro e w2 ⟨rfl, rfl⟩)
        | (go_at_call 25; refine (HX.out _).mono ?_; rintro e w2 ⟨rfl, rfl⟩)
        | (go_at_call 26; refine (HC.out _).mono ?_; rintro e w2 ⟨rfl, rfl⟩)
        | (go_at_call 27; refine (HD.out _).mono ?_; rintro e w2 ⟨rfl, rfl⟩)
        | (go_at_call 27; refine (HS.out _).mono ?_; rintro e w2 ⟨rfl, rfl⟩))
      go_ret2
      exact ⟨rfl, by repeat (first | exact hK1 | refine Kept.alloc ?_ _ | refine Kept.drew ?_)⟩
    · rw [hcl] at HC
      have hr : r = bitN x.dst ||| bitN x.src := by rw [← HR.out]; unfold readsN; rw [hcl]; rfl
      clear HR EJ hcl
      subst hr
      go_enter Try.func10, Try.ntmps10
      go_wp2_with fail
      refine (HK.out _).mono ?_
      rintro e w1 ⟨rfl, hk1⟩
      have hb1 := hk1.blk (fun h => h) hbB
      have x0 := hb1.cell 0
      have x1 := hb1.cell 1
      have x2 := hb1.cell 2
      have x3 := hb1.cell 3
      have x4 := hb1.cell 4
      have hlt1 := hb1.lt
      have hlt2 : w.heap.size < w1.heap.size + 1 := by omega
      have hlt3 : w.heap.size < w1.heap.size + 1 + 1 := by omega
      have hlt4 : w.heap.size < w1.heap.size + 1 + 1 + 1 := by omega
      have hK1 := hkB.trans hk1 (fun _ _ h => h)
      go_wp2_with (first
      | (go_at_call 24; refine (HO.out _).mono ?_; rintro e w2 ⟨rfl, rfl⟩)
      | (go_at_call 25; refine (HX.out _).mono ?_; rintro e w2 ⟨rfl, rfl⟩)
      | (go_at_call 26; refine (HC.out _).mono ?_; rintro e w2 ⟨rfl, rfl⟩)
      | (go_at_call 27; refine (HD.out _).mono ?_; rintro e w2 ⟨rfl, rfl⟩)
      | (go_at_call 27; refine (HS.out _).mono ?_; rintro e w2 ⟨rfl, rfl⟩))
      refine wp_region_mix0 [.w, .l, .k, .w, .l, .k, .w, .w, .w] (by kernel_rfl) (by kernel_rfl) ?_
      refine mix_w1 ?_; go_big_quiet_step (fail); refine wpQuiet_nil ?_
      refine mix_l1 rfl ?_; go_big_quiet_step (fail); refine wpQuiet_nil ?_
      refine mix_k rfl fun Q' hQ' => ?_
      go_wp2_with (go_at_call 27; refine (HD.out _).mono ?_; rintro e w2 ⟨rfl, rfl⟩)
      refine hQ' _ _ rfl ?_
      clear hQ' Q'
      refine mix_w1 ?_; go_big_quiet_step (fail); refine wpQuiet_nil ?_
      refine mix_l1 rfl ?_; go_big_quiet_step (fail); refine wpQuiet_nil ?_
      refine mix_k rfl fun Q' hQ' => ?_
      go_wp2_with (go_at_call 27; refine (HS.out _).mono ?_; rintro e w2 ⟨rfl, rfl⟩)
      refine hQ' _ _ rfl ?_
      clear hQ' Q'
      repeat (refine mix_w1 ?_; go_big_quiet_step (fail); refine wpQuiet_nil ?_)
      refine mix_done ?_
      go_wp2_with fail
      go_ret2
      exact ⟨rfl, by repeat (first | exact hK1 | refine Kept.alloc ?_ _ | refine Kept.drew ?_)⟩
    · rw [hcl] at HC
      have hr : r = (if (codeI x == 13) = true then bitN x.dst else if (codeI x == 11) = true then secN x else bitN x.dst ||| secN x) := by rw [← HR.out]; unfold readsN; rw [hcl]; rfl
      clear HR EJ hcl
      have s0 := @secN_t x
      have s1 := @secN_f x
      obtain ⟨xb, hxb⟩ : ∃ xb, xB x = xb := ⟨_, rfl⟩
      rw [hxb] at HX s0 s1
      clear hxb
      obtain ⟨co, hco⟩ : ∃ co, codeI x = co := ⟨_, rfl⟩
      rw [hco] at HO hr
      clear hco
      by_cases h13 : co = 13
      · subst h13
        rw [if_pos (show ((13 : Int) == 13) = true from rfl)] at hr
        subst hr
        clear s0 s1
        cases xb
        all_goals
          go_enter Try.func10, Try.ntmps10
          go_wp2_with fail
          refine (HK.out _).mono ?_
          rintro e w1 ⟨rfl, hk1⟩
          have hb1 := hk1.blk (fun h => h) hbB
          have x0 := hb1.cell 0
          have x1 := hb1.cell 1
          have x2 := hb1.cell 2
          have x3 := hb1.cell 3
          have x4 := hb1.cell 4
          have hlt1 := hb1.lt
          have hlt2 : w.heap.size < w1.heap.size + 1 := by omega
          have hlt3 : w.heap.size < w1.heap.size + 1 + 1 := by omega
          have hlt4 : w.heap.size < w1.heap.size + 1 + 1 + 1 := by omega
          have hK1 := hkB.trans hk1 (fun _ _ h => h)
          go_wp2_with (first
            | (go_at_call 24; refine (HO.out _).mono ?_; rintro e w2 ⟨rfl, rfl⟩)
            | (go_at_call 25; refine (HX.out _).mono ?_; rintro e w2 ⟨rfl, rfl⟩)
            | (go_at_call 26; refine (HC.out _).mono ?_; rintro e w2 ⟨rfl, rfl⟩)
            | (go_at_call 27; refine (HD.out _).mono ?_; rintro e w2 ⟨rfl, rfl⟩)
            | (go_at_call 27; refine (HS.out _).mono ?_; rintro e w2 ⟨rfl, rfl⟩))
          go_ret2
          exact ⟨rfl, by repeat (first | exact hK1 | refine Kept.alloc ?_ _ | refine Kept.drew ?_)⟩
      by_cases h11 : co = 11
      · subst h11
        rw [if_neg (by decide), if_pos (show ((11 : Int) == 11) = true from rfl)] at hr
        cases xb
        case false =>
          rw [s1 rfl] at hr
          subst hr
          clear s0 s1
          go_enter Try.func10, Try.ntmps10
          go_wp2_with fail
          refine (HK.out _).mono ?_
          rintro e w1 ⟨rfl, hk1⟩
          have hb1 := hk1.blk (fun h => h) hbB
          have x0 := hb1.cell 0
          have x1 := hb1.cell 1
          have x2 := hb1.cell 2
          have x3 := hb1.cell 3
          have x4 := hb1.cell 4
          have hlt1 := hb1.lt
          have hlt2 : w.heap.size < w1.heap.size + 1 := by omega
          have hlt3 : w.heap.size < w1.heap.size + 1 + 1 := by omega
          have hlt4 : w.heap.size < w1.heap.size + 1 + 1 + 1 := by omega
          have hK1 := hkB.trans hk1 (fun _ _ h => h)
          go_wp2_with (first
            | (go_at_call 24; refine (HO.out _).mono ?_; rintro e w2 ⟨rfl, rfl⟩)
            | (go_at_call 25; refine (HX.out _).mono ?_; rintro e w2 ⟨rfl, rfl⟩)
            | (go_at_call 26; refine (HC.out _).mono ?_; rintro e w2 ⟨rfl, rfl⟩)
            | (go_at_call 27; refine (HD.out _).mono ?_; rintro e w2 ⟨rfl, rfl⟩)
            | (go_at_call 27; refine (HS.out _).mono ?_; rintro e w2 ⟨rfl, rfl⟩))
          go_ret2
          exact ⟨rfl, by repeat (first | exact hK1 | refine Kept.alloc ?_ _ | refine Kept.drew ?_)⟩
        case true =>
          rw [s0 rfl] at hr
          subst hr
          clear s0 s1
          go_enter Try.func10, Try.ntmps10
          go_wp2_with fail
          refine (HK.out _).mono ?_
          rintro e w1 ⟨rfl, hk1⟩
          have hb1 := hk1.blk (fun h => h) hbB
          have x0 := hb1.cell 0
          have x1 := hb1.cell 1
          have x2 := hb1.cell 2
          have x3 := hb1.cell 3
          have x4 := hb1.cell 4
          have hlt1 := hb1.lt
          have hlt2 : w.heap.size < w1.heap.size + 1 := by omega
          have hlt3 : w.heap.size < w1.heap.size + 1 + 1 := by omega
          have hlt4 : w.heap.size < w1.heap.size + 1 + 1 + 1 := by omega
          have hK1 := hkB.trans hk1 (fun _ _ h => h)
          go_wp2_with (first
            | (go_at_call 24; refine (HO.out _).mono ?_; rintro e w2 ⟨rfl, rfl⟩)
            | (go_at_call 25; refine (HX.out _).mono ?_; rintro e w2 ⟨rfl, rfl⟩)
            | (go_at_call 26; refine (HC.out _).mono ?_; rintro e w2 ⟨rfl, rfl⟩)
            | (go_at_call 27; refine (HD.out _).mono ?_; rintro e w2 ⟨rfl, rfl⟩)
            | (go_at_call 27; refine (HS.out _).mono ?_; rintro e w2 ⟨rfl, rfl⟩))
          go_ret2
          exact ⟨rfl, by repeat (first | exact hK1 | refine Kept.alloc ?_ _ | refine Kept.drew ?_)⟩
      · have b13 : (co == 13) = false := by simpa using h13
        have b11 : (co == 11) = false := by simpa using h11
        rw [if_neg (by rw [b13]; decide), if_neg (by rw [b11]; decide)] at hr
        have c13 : (co != 13) = true := by simpa using h13
        have c11 : (co != 11) = true := by simpa using h11
        clear b13 b11 h13 h11
        cases xb
        case false =>
          rw [s1 rfl, Nat.or_zero] at hr
          subst hr
          clear s0 s1
          go_enter Try.func10, Try.ntmps10
          go_wp2_with fail
          refine (HK.out _).mono ?_
          rintro e w1 ⟨rfl, hk1⟩
          have hb1 := hk1.blk (fun h => h) hbB
          have x0 := hb1.cell 0
          have x1 := hb1.cell 1
          have x2 := hb1.cell 2
          have x3 := hb1.cell 3
          have x4 := hb1.cell 4
          have hlt1 := hb1.lt
          have hlt2 : w.heap.size < w1.heap.size + 1 := by omega
          have hlt3 : w.heap.size < w1.heap.size + 1 + 1 := by omega
          have hlt4 : w.heap.size < w1.heap.size + 1 + 1 + 1 := by omega
          have hK1 := hkB.trans hk1 (fun _ _ h => h)
          go_wp2_with (first
            | (go_at_call 24; refine (HO.out _).mono ?_; rintro e w2 ⟨rfl, rfl⟩)
            | (go_at_call 25; refine (HX.out _).mono ?_; rintro e w2 ⟨rfl, rfl⟩)
            | (go_at_call 26; refine (HC.out _).mono ?_; rintro e w2 ⟨rfl, rfl⟩)
            | (go_at_call 27; refine (HD.out _).mono ?_; rintro e w2 ⟨rfl, rfl⟩)
            | (go_at_call 27; refine (HS.out _).mono ?_; rintro e w2 ⟨rfl, rfl⟩))
          go_ret2
          exact ⟨rfl, by repeat (first | exact hK1 | refine Kept.alloc ?_ _ | refine Kept.drew ?_)⟩
        case true =>
          rw [s0 rfl] at hr
          subst hr
          clear s0 s1
          go_enter Try.func10, Try.ntmps10
          go_wp2_with fail
          refine (HK.out _).mono ?_
          rintro e w1 ⟨rfl, hk1⟩
          have hb1 := hk1.blk (fun h => h) hbB
          have x0 := hb1.cell 0
          have x1 := hb1.cell 1
          have x2 := hb1.cell 2
          have x3 := hb1.cell 3
          have x4 := hb1.cell 4
          have hlt1 := hb1.lt
          have hlt2 : w.heap.size < w1.heap.size + 1 := by omega
          have hlt3 : w.heap.size < w1.heap.size + 1 + 1 := by omega
          have hlt4 : w.heap.size < w1.heap.size + 1 + 1 + 1 := by omega
          have hK1 := hkB.trans hk1 (fun _ _ h => h)
          go_wp2_with (first
            | (go_at_call 24; refine (HO.out _).mono ?_; rintro e w2 ⟨rfl, rfl⟩)
            | (go_at_call 25; refine (HX.out _).mono ?_; rintro e w2 ⟨rfl, rfl⟩)
            | (go_at_call 26; refine (HC.out _).mono ?_; rintro e w2 ⟨rfl, rfl⟩)
            | (go_at_call 27; refine (HD.out _).mono ?_; rintro e w2 ⟨rfl, rfl⟩)
            | (go_at_call 27; refine (HS.out _).mono ?_; rintro e w2 ⟨rfl, rfl⟩))
          go_ret2
          exact ⟨rfl, by repeat (first | exact hK1 | refine Kept.alloc ?_ _ | refine Kept.drew ?_)⟩
    · rw [hcl] at HC
      have hr : r = (if (codeI x == 13) = true then bitN x.dst else if (codeI x == 11) = true then secN x else bitN x.dst ||| secN x) := by rw [← HR.out]; unfold readsN; rw [hcl]; rfl
      clear HR EJ hcl
      have s0 := @secN_t x
      have s1 := @secN_f x
      obtain ⟨xb, hxb⟩ : ∃ xb, xB x = xb := ⟨_, rfl⟩
      rw [hxb] at HX s0 s1
      clear hxb
      obtain ⟨co, hco⟩ : ∃ co, codeI x = co := ⟨_, rfl⟩
      rw [hco] at HO hr
      clear hco
      by_cases h13 : co = 13
      · subst h13
        rw [if_pos (show ((13 : Int) == 13) = true from rfl)] at hr
        subst hr
        clear s0 s1
        cases xb
        all_goals
          go_enter Try.func10, Try.ntmps10
          go_wp2_with fail
          refine (HK.out _).mono ?_
          rintro e w1 ⟨rfl, hk1⟩
          have hb1 := hk1.blk (fun h => h) hbB
          have x0 := hb1.cell 0
          have x1 := hb1.cell 1
          have x2 := hb1.cell 2
          have x3 := hb1.cell 3
          have x4 := hb1.cell 4
          have hlt1 := hb1.lt
          have hlt2 : w.heap.size < w1.heap.size + 1 := by omega
          have hlt3 : w.heap.size < w1.heap.size + 1 + 1 := by omega
          have hlt4 : w.heap.size < w1.heap.size + 1 + 1 + 1 := by omega
          have hK1 := hkB.trans hk1 (fun _ _ h => h)
          go_wp2_with (first
            | (go_at_call 24; refine (HO.out _).mono ?_; rintro e w2 ⟨rfl, rfl⟩)
            | (go_at_call 25; refine (HX.out _).mono ?_; rintro e w2 ⟨rfl, rfl⟩)
            | (go_at_call 26; refine (HC.out _).mono ?_; rintro e w2 ⟨rfl, rfl⟩)
            | (go_at_call 27; refine (HD.out _).mono ?_; rintro e w2 ⟨rfl, rfl⟩)
            | (go_at_call 27; refine (HS.out _).mono ?_; rintro e w2 ⟨rfl, rfl⟩))
          go_ret2
          exact ⟨rfl, by repeat (first | exact hK1 | refine Kept.alloc ?_ _ | refine Kept.drew ?_)⟩
      by_cases h11 : co = 11
      · subst h11
        rw [if_neg (by decide), if_pos (show ((11 : Int) == 11) = true from rfl)] at hr
        cases xb
        case false =>
          rw [s1 rfl] at hr
          subst hr
          clear s0 s1
          go_enter Try.func10, Try.ntmps10
          go_wp2_with fail
          refine (HK.out _).mono ?_
          rintro e w1 ⟨rfl, hk1⟩
          have hb1 := hk1.blk (fun h => h) hbB
          have x0 := hb1.cell 0
          have x1 := hb1.cell 1
          have x2 := hb1.cell 2
          have x3 := hb1.cell 3
          have x4 := hb1.cell 4
          have hlt1 := hb1.lt
          have hlt2 : w.heap.size < w1.heap.size + 1 := by omega
          have hlt3 : w.heap.size < w1.heap.size + 1 + 1 := by omega
          have hlt4 : w.heap.size < w1.heap.size + 1 + 1 + 1 := by omega
          have hK1 := hkB.trans hk1 (fun _ _ h => h)
          go_wp2_with (first
            | (go_at_call 24; refine (HO.out _).mono ?_; rintro e w2 ⟨rfl, rfl⟩)
            | (go_at_call 25; refine (HX.out _).mono ?_; rintro e w2 ⟨rfl, rfl⟩)
            | (go_at_call 26; refine (HC.out _).mono ?_; rintro e w2 ⟨rfl, rfl⟩)
            | (go_at_call 27; refine (HD.out _).mono ?_; rintro e w2 ⟨rfl, rfl⟩)
            | (go_at_call 27; refine (HS.out _).mono ?_; rintro e w2 ⟨rfl, rfl⟩))
          go_ret2
          exact ⟨rfl, by repeat (first | exact hK1 | refine Kept.alloc ?_ _ | refine Kept.drew ?_)⟩
        case true =>
          rw [s0 rfl] at hr
          subst hr
          clear s0 s1
          go_enter Try.func10, Try.ntmps10
          go_wp2_with fail
          refine (HK.out _).mono ?_
          rintro e w1 ⟨rfl, hk1⟩
          have hb1 := hk1.blk (fun h => h) hbB
          have x0 := hb1.cell 0
          have x1 := hb1.cell 1
          have x2 := hb1.cell 2
          have x3 := hb1.cell 3
          have x4 := hb1.cell 4
          have hlt1 := hb1.lt
          have hlt2 : w.heap.size < w1.heap.size + 1 := by omega
          have hlt3 : w.heap.size < w1.heap.size + 1 + 1 := by omega
          have hlt4 : w.heap.size < w1.heap.size + 1 + 1 + 1 := by omega
          have hK1 := hkB.trans hk1 (fun _ _ h => h)
          go_wp2_with (first
            | (go_at_call 24; refine (HO.out _).mono ?_; rintro e w2 ⟨rfl, rfl⟩)
            | (go_at_call 25; refine (HX.out _).mono ?_; rintro e w2 ⟨rfl, rfl⟩)
            | (go_at_call 26; refine (HC.out _).mono ?_; rintro e w2 ⟨rfl, rfl⟩)
            | (go_at_call 27; refine (HD.out _).mono ?_; rintro e w2 ⟨rfl, rfl⟩)
            | (go_at_call 27; refine (HS.out _).mono ?_; rintro e w2 ⟨rfl, rfl⟩))
          go_ret2
          exact ⟨rfl, by repeat (first | exact hK1 | refine Kept.alloc ?_ _ | refine Kept.drew ?_)⟩
      · have b13 : (co == 13) = false := by simpa using h13
        have b11 : (co == 11) = false := by simpa using h11
        rw [if_neg (by rw [b13]; decide), if_neg (by rw [b11]; decide)] at hr
        have c13 : (co != 13) = true := by simpa using h13
        have c11 : (co != 11) = true := by simpa using h11
        clear b13 b11 h13 h11
        cases xb
        case false =>
          rw [s1 rfl, Nat.or_zero] at hr
          subst hr
          clear s0 s1
          go_enter Try.func10, Try.ntmps10
          go_wp2_with fail
          refine (HK.out _).mono ?_
          rintro e w1 ⟨rfl, hk1⟩
          have hb1 := hk1.blk (fun h => h) hbB
          have x0 := hb1.cell 0
          have x1 := hb1.cell 1
          have x2 := hb1.cell 2
          have x3 := hb1.cell 3
          have x4 := hb1.cell 4
          have hlt1 := hb1.lt
          have hlt2 : w.heap.size < w1.heap.size + 1 := by omega
          have hlt3 : w.heap.size < w1.heap.size + 1 + 1 := by omega
          have hlt4 : w.heap.size < w1.heap.size + 1 + 1 + 1 := by omega
          have hK1 := hkB.trans hk1 (fun _ _ h => h)
          go_wp2_with (first
            | (go_at_call 24; refine (HO.out _).mono ?_; rintro e w2 ⟨rfl, rfl⟩)
            | (go_at_call 25; refine (HX.out _).mono ?_; rintro e w2 ⟨rfl, rfl⟩)
            | (go_at_call 26; refine (HC.out _).mono ?_; rintro e w2 ⟨rfl, rfl⟩)
            | (go_at_call 27; refine (HD.out _).mono ?_; rintro e w2 ⟨rfl, rfl⟩)
            | (go_at_call 27; refine (HS.out _).mono ?_; rintro e w2 ⟨rfl, rfl⟩))
          go_ret2
          exact ⟨rfl, by repeat (first | exact hK1 | refine Kept.alloc ?_ _ | refine Kept.drew ?_)⟩
        case true =>
          rw [s0 rfl] at hr
          subst hr
          clear s0 s1
          go_enter Try.func10, Try.ntmps10
          go_wp2_with fail
          refine (HK.out _).mono ?_
          rintro e w1 ⟨rfl, hk1⟩
          have hb1 := hk1.blk (fun h => h) hbB
          have x0 := hb1.cell 0
          have x1 := hb1.cell 1
          have x2 := hb1.cell 2
          have x3 := hb1.cell 3
          have x4 := hb1.cell 4
          have hlt1 := hb1.lt
          have hlt2 : w.heap.size < w1.heap.size + 1 := by omega
          have hlt3 : w.heap.size < w1.heap.size + 1 + 1 := by omega
          have hlt4 : w.heap.size < w1.heap.size + 1 + 1 + 1 := by omega
          have hK1 := hkB.trans hk1 (fun _ _ h => h)
          go_wp2_with (first
            | (go_at_call 24; refine (HO.out _).mono ?_; rintro e w2 ⟨rfl, rfl⟩)
            | (go_at_call 25; refine (HX.out _).mono ?_; rintro e w2 ⟨rfl, rfl⟩)
            | (go_at_call 26; refine (HC.out _).mono ?_; rintro e w2 ⟨rfl, rfl⟩)
            | (go_at_call 27; refine (HD.out _).mono ?_; rintro e w2 ⟨rfl, rfl⟩)
            | (go_at_call 27; refine (HS.out _).mono ?_; rintro e w2 ⟨rfl, rfl⟩))
          go_ret2
          exact ⟨rfl, by repeat (first | exact hK1 | refine Kept.alloc ?_ _ | refine Kept.drew ?_)⟩
    · have hcl2 := EJ.out hcl
      clear HR EJ
      have hnz : (clsI x == 0) = false ∧ (clsI x == 1) = false ∧ (clsI x == 2) = false ∧ (clsI x == 3) = false ∧ (clsI x == 4) = false ∧ (clsI x == 7) = false := by
        rcases hcl with h | h <;> rw [h] <;> decide
      obtain ⟨n0, n1, n2, n3, n4, n7⟩ := hnz
      obtain ⟨cl, hcl3⟩ : ∃ cl, clsI x = cl := ⟨_, rfl⟩
      rw [hcl3] at HC n0 n1 n2 n3 n4 n7
      clear hcl hcl3
      unfold docJ at hcl2
      have s0 := @secN_t x
      have s1 := @secN_f x
      obtain ⟨xb, hxb⟩ : ∃ xb, xB x = xb := ⟨_, rfl⟩
      rw [hxb] at HX s0 s1
      clear hxb
      obtain ⟨co, hco⟩ : ∃ co, codeI x = co := ⟨_, rfl⟩
      rw [hco] at HO hcl2
      clear hco
      obtain ⟨cm, hcm⟩ : ∃ cm, cmpR x = cm := ⟨_, rfl⟩
      rw [hcm] at HM hcl2
      clear hcm
      cases cm
      case true =>
        rw [if_pos rfl] at hcl2
        cases xb
        case false =>
          rw [s1 rfl, Nat.or_zero] at hcl2
          subst hcl2
          clear s0 s1
          go_enter Try.func10, Try.ntmps10
          go_wp2_with fail
          refine (HK.out _).mono ?_
          rintro e w1 ⟨rfl, hk1⟩
          have hb1 := hk1.blk (fun h => h) hbB
          have x0 := hb1.cell 0
          have x1 := hb1.cell 1
          have x2 := hb1.cell 2
          have x3 := hb1.cell 3
          have x4 := hb1.cell 4
          have hlt1 := hb1.lt
          have hlt2 : w.heap.size < w1.heap.size + 1 := by omega
          have hlt3 : w.heap.size < w1.heap.size + 1 + 1 := by omega
          have hlt4 : w.heap.size < w1.heap.size + 1 + 1 + 1 := by omega
          have hK1 := hkB.trans hk1 (fun _ _ h => h)
          go_wp2_with (first
            | (go_at_call 24; refine (HO.out _).mono ?_; rintro e w2 ⟨rfl, rfl⟩)
            | (go_at_call 25; refine (HX.out _).mono ?_; rintro e w2 ⟨rfl, rfl⟩)
            | (go_at_call 26; refine (HC.out _).mono ?_; rintro e w2 ⟨rfl, rfl⟩)
            | (go_at_call 27; refine (HD.out _).mono ?_; rintro e w2 ⟨rfl, rfl⟩)
            | (go_at_call 27; refine (HS.out _).mono ?_; rintro e w2 ⟨rfl, rfl⟩))
          refine (HM.out _).mono ?_
          rintro e w2 ⟨rfl, hk2⟩
          have hKa : Kept (fun _ => False) w _ := ((hK1.alloc (.cells (inVals x) 26)).alloc (.cells (inVals x) 26)).alloc (.cells (inVals x) 26)
          have hK2 : Kept (fun _ => False) w w2 := hKa.trans hk2 (fun _ _ h => h)
          have hb2 := hk2.blk (fun h => h) (((hb1.alloc (.cells (inVals x) 26)).alloc (.cells (inVals x) 26)).alloc (.cells (inVals x) 26))
          clear x0 x1 x2 x3 x4 hlt1 hlt2 hlt3 hlt4 hb1 hk2 hKa
          have x0 := hb2.cell 0
          have x1 := hb2.cell 1
          have x2 := hb2.cell 2
          have x3 := hb2.cell 3
          have x4 := hb2.cell 4
          have hlt1 := hb2.lt
          have hlt2 : w.heap.size < w2.heap.size + 1 := by omega
          have hlt3 : w.heap.size < w2.heap.size + 1 + 1 := by omega
          have hlt4 : w.heap.size < w2.heap.size + 1 + 1 + 1 := by omega
          go_wp2_with (first
            | (go_at_call 24; refine (HO.out _).mono ?_; rintro e w2 ⟨rfl, rfl⟩)
            | (go_at_call 25; refine (HX.out _).mono ?_; rintro e w2 ⟨rfl, rfl⟩)
            | (go_at_call 26; refine (HC.out _).mono ?_; rintro e w2 ⟨rfl, rfl⟩)
            | (go_at_call 27; refine (HD.out _).mono ?_; rintro e w2 ⟨rfl, rfl⟩)
            | (go_at_call 27; refine (HS.out _).mono ?_; rintro e w2 ⟨rfl, rfl⟩))
          go_ret2
          exact ⟨rfl, by repeat (first | exact hK2 | refine Kept.alloc ?_ _ | refine Kept.drew ?_)⟩
        case true =>
          rw [s0 rfl] at hcl2
          subst hcl2
          clear s0 s1
          go_enter Try.func10, Try.ntmps10
          go_wp2_with fail
          refine (HK.out _).mono ?_
          rintro e w1 ⟨rfl, hk1⟩
          have hb1 := hk1.blk (fun h => h) hbB
          have x0 := hb1.cell 0
          have x1 := hb1.cell 1
          have x2 := hb1.cell 2
          have x3 := hb1.cell 3
          have x4 := hb1.cell 4
          have hlt1 := hb1.lt
          have hlt2 : w.heap.size < w1.heap.size + 1 := by omega
          have hlt3 : w.heap.size < w1.heap.size + 1 + 1 := by omega
          have hlt4 : w.heap.size < w1.heap.size + 1 + 1 + 1 := by omega
          have hK1 := hkB.trans hk1 (fun _ _ h => h)
          go_wp2_with (first
            | (go_at_call 24; refine (HO.out _).mono ?_; rintro e w2 ⟨rfl, rfl⟩)
            | (go_at_call 25; refine (HX.out _).mono ?_; rintro e w2 ⟨rfl, rfl⟩)
            | (go_at_call 26; refine (HC.out _).mono ?_; rintro e w2 ⟨rfl, rfl⟩)
            | (go_at_call 27; refine (HD.out _).mono ?_; rintro e w2 ⟨rfl, rfl⟩)
            | (go_at_call 27; refine (HS.out _).mono ?_; rintro e w2 ⟨rfl, rfl⟩))
          refine (HM.out _).mono ?_
          rintro e w2 ⟨rfl, hk2⟩
          have hKa : Kept (fun _ => False) w _ := ((hK1.alloc (.cells (inVals x) 26)).alloc (.cells (inVals x) 26)).alloc (.cells (inVals x) 26)
          have hK2 : Kept (fun _ => False) w w2 := hKa.trans hk2 (fun _ _ h => h)
          have hb2 := hk2.blk (fun h => h) (((hb1.alloc (.cells (inVals x) 26)).alloc (.cells (inVals x) 26)).alloc (.cells (inVals x) 26))
          clear x0 x1 x2 x3 x4 hlt1 hlt2 hlt3 hlt4 hb1 hk2 hKa
          have x0 := hb2.cell 0
          have x1 := hb2.cell 1
          have x2 := hb2.cell 2
          have x3 := hb2.cell 3
          have x4 := hb2.cell 4
          have hlt1 := hb2.lt
          have hlt2 : w.heap.size < w2.heap.size + 1 := by omega
          have hlt3 : w.heap.size < w2.heap.size + 1 + 1 := by omega
          have hlt4 : w.heap.size < w2.heap.size + 1 + 1 + 1 := by omega
          go_wp2_with (first
            | (go_at_call 24; refine (HO.out _).mono ?_; rintro e w2 ⟨rfl, rfl⟩)
            | (go_at_call 25; refine (HX.out _).mono ?_; rintro e w2 ⟨rfl, rfl⟩)
            | (go_at_call 26; refine (HC.out _).mono ?_; rintro e w2 ⟨rfl, rfl⟩)
            | (go_at_call 27; refine (HD.out _).mono ?_; rintro e w2 ⟨rfl, rfl⟩)
            | (go_at_call 27; refine (HS.out _).mono ?_; rintro e w2 ⟨rfl, rfl⟩))
          go_ret2
          exact ⟨rfl, by repeat (first | exact hK2 | refine Kept.alloc ?_ _ | refine Kept.drew ?_)⟩
      case false =>
        rw [if_neg (by decide)] at hcl2
        clear s0 s1
        by_cases h9 : co = 9
        · subst h9
          rw [if_pos (show ((9 : Int) == 9) = true from rfl)] at hcl2
          subst hcl2
          go_enter Try.func10, Try.ntmps10
          go_wp2_with fail
          refine (HK.out _).mono ?_
          rintro e w1 ⟨rfl, hk1⟩
          have hb1 := hk1.blk (fun h => h) hbB
          have x0 := hb1.cell 0
          have x1 := hb1.cell 1
          have x2 := hb1.cell 2
          have x3 := hb1.cell 3
          have x4 := hb1.cell 4
          have hlt1 := hb1.lt
          have hlt2 : w.heap.size < w1.heap.size + 1 := by omega
          have hlt3 : w.heap.size < w1.heap.size + 1 + 1 := by omega
          have hlt4 : w.heap.size < w1.heap.size + 1 + 1 + 1 := by omega
          have hK1 := hkB.trans hk1 (fun _ _ h => h)
          go_wp2_with (first
            | (go_at_call 24; refine (HO.out _).mono ?_; rintro e w2 ⟨rfl, rfl⟩)
            | (go_at_call 25; refine (HX.out _).mono ?_; rintro e w2 ⟨rfl, rfl⟩)
            | (go_at_call 26; refine (HC.out _).mono ?_; rintro e w2 ⟨rfl, rfl⟩)
            | (go_at_call 27; refine (HD.out _).mono ?_; rintro e w2 ⟨rfl, rfl⟩)
            | (go_at_call 27; refine (HS.out _).mono ?_; rintro e w2 ⟨rfl, rfl⟩))
          refine (HM.out _).mono ?_
          rintro e w2 ⟨rfl, hk2⟩
          have hKa : Kept (fun _ => False) w _ := ((hK1.alloc (.cells (inVals x) 26)).alloc (.cells (inVals x) 26)).alloc (.cells (inVals x) 26)
          have hK2 : Kept (fun _ => False) w w2 := hKa.trans hk2 (fun _ _ h => h)
          have hb2 := hk2.blk (fun h => h) (((hb1.alloc (.cells (inVals x) 26)).alloc (.cells (inVals x) 26)).alloc (.cells (inVals x) 26))
          clear x0 x1 x2 x3 x4 hlt1 hlt2 hlt3 hlt4 hb1 hk2 hKa
          have x0 := hb2.cell 0
          have x1 := hb2.cell 1
          have x2 := hb2.cell 2
          have x3 := hb2.cell 3
          have x4 := hb2.cell 4
          have hlt1 := hb2.lt
          have hlt2 : w.heap.size < w2.heap.size + 1 := by omega
          have hlt3 : w.heap.size < w2.heap.size + 1 + 1 := by omega
          have hlt4 : w.heap.size < w2.heap.size + 1 + 1 + 1 := by omega
          go_wp2_with (first
            | (go_at_call 24; refine (HO.out _).mono ?_; rintro e w2 ⟨rfl, rfl⟩)
            | (go_at_call 25; refine (HX.out _).mono ?_; rintro e w2 ⟨rfl, rfl⟩)
            | (go_at_call 26; refine (HC.out _).mono ?_; rintro e w2 ⟨rfl, rfl⟩)
            | (go_at_call 27; refine (HD.out _).mono ?_; rintro e w2 ⟨rfl, rfl⟩)
            | (go_at_call 27; refine (HS.out _).mono ?_; rintro e w2 ⟨rfl, rfl⟩))
          go_ret2
          exact ⟨rfl, by repeat (first | exact hK2 | refine Kept.alloc ?_ _ | refine Kept.drew ?_)⟩
        by_cases h8 : co = 8
        · subst h8
          rw [if_neg (by decide), if_pos (show ((8 : Int) == 8) = true from rfl)] at hcl2
          cases h1 : (x.src == 1)
          case true =>
            rw [if_pos h1] at hcl2
            subst hcl2
            go_enter Try.func10, Try.ntmps10
            go_wp2_with fail
            refine (HK.out _).mono ?_
            rintro e w1 ⟨rfl, hk1⟩
            have hb1 := hk1.blk (fun h => h) hbB
            have x0 := hb1.cell 0
            have x1 := hb1.cell 1
            have x2 := hb1.cell 2
            have x3 := hb1.cell 3
            have x4 := hb1.cell 4
            have hlt1 := hb1.lt
            have hlt2 : w.heap.size < w1.heap.size + 1 := by omega
            have hlt3 : w.heap.size < w1.heap.size + 1 + 1 := by omega
            have hlt4 : w.heap.size < w1.heap.size + 1 + 1 + 1 := by omega
            have hK1 := hkB.trans hk1 (fun _ _ h => h)
            go_wp2_with (first
              | (go_at_call 24; refine (HO.out _).mono ?_; rintro e w2 ⟨rfl, rfl⟩)
              | (go_at_call 25; refine (HX.out _).mono ?_; rintro e w2 ⟨rfl, rfl⟩)
              | (go_at_call 26; refine (HC.out _).mono ?_; rintro e w2 ⟨rfl, rfl⟩)
              | (go_at_call 27; refine (HD.out _).mono ?_; rintro e w2 ⟨rfl, rfl⟩)
              | (go_at_call 27; refine (HS.out _).mono ?_; rintro e w2 ⟨rfl, rfl⟩))
            refine (HM.out _).mono ?_
            rintro e w2 ⟨rfl, hk2⟩
            have hKa : Kept (fun _ => False) w _ := ((hK1.alloc (.cells (inVals x) 26)).alloc (.cells (inVals x) 26)).alloc (.cells (inVals x) 26)
            have hK2 : Kept (fun _ => False) w w2 := hKa.trans hk2 (fun _ _ h => h)
            have hb2 := hk2.blk (fun h => h) (((hb1.alloc (.cells (inVals x) 26)).alloc (.cells (inVals x) 26)).alloc (.cells (inVals x) 26))
            clear x0 x1 x2 x3 x4 hlt1 hlt2 hlt3 hlt4 hb1 hk2 hKa
            have x0 := hb2.cell 0
            have x1 := hb2.cell 1
            have x2 := hb2.cell 2
            have x3 := hb2.cell 3
            have x4 := hb2.cell 4
            have hlt1 := hb2.lt
            have hlt2 : w.heap.size < w2.heap.size + 1 := by omega
            have hlt3 : w.heap.size < w2.heap.size + 1 + 1 := by omega
            have hlt4 : w.heap.size < w2.heap.size + 1 + 1 + 1 := by omega
            go_wp2_with (first
              | (go_at_call 24; refine (HO.out _).mono ?_; rintro e w2 ⟨rfl, rfl⟩)
              | (go_at_call 25; refine (HX.out _).mono ?_; rintro e w2 ⟨rfl, rfl⟩)
              | (go_at_call 26; refine (HC.out _).mono ?_; rintro e w2 ⟨rfl, rfl⟩)
              | (go_at_call 27; refine (HD.out _).mono ?_; rintro e w2 ⟨rfl, rfl⟩)
              | (go_at_call 27; refine (HS.out _).mono ?_; rintro e w2 ⟨rfl, rfl⟩))
            go_ret2
            exact ⟨rfl, by repeat (first | exact hK2 | refine Kept.alloc ?_ _ | refine Kept.drew ?_)⟩
          case false =>
            rw [if_neg (by rw [h1]; decide)] at hcl2
            obtain ⟨nm, a0, a1, a2, a3, a4, ret, maps, ac, re, hpr, -⟩ := prL_args x.imm.toNat
            rw [hpr] at HP HN
            clear hpr
            by_cases hn : x.imm < 1 ∨ 28 < x.imm
            case pos =>
              rw [protN_out hn] at hcl2
              subst hcl2
              rw [show pofE x.imm = 130 from if_pos hn] at HP
              clear hn
              go_enter Try.func10, Try.ntmps10
              go_wp2_with fail
              refine (HK.out _).mono ?_
              rintro e w1 ⟨rfl, hk1⟩
              have hb1 := hk1.blk (fun h => h) hbB
              have x0 := hb1.cell 0
              have x1 := hb1.cell 1
              have x2 := hb1.cell 2
              have x3 := hb1.cell 3
              have x4 := hb1.cell 4
              have hlt1 := hb1.lt
              have hlt2 : w.heap.size < w1.heap.size + 1 := by omega
              have hlt3 : w.heap.size < w1.heap.size + 1 + 1 := by omega
              have hlt4 : w.heap.size < w1.heap.size + 1 + 1 + 1 := by omega
              have hK1 := hkB.trans hk1 (fun _ _ h => h)
              go_wp2_with (first
                | (go_at_call 24; refine (HO.out _).mono ?_; rintro e w2 ⟨rfl, rfl⟩)
                | (go_at_call 25; refine (HX.out _).mono ?_; rintro e w2 ⟨rfl, rfl⟩)
                | (go_at_call 26; refine (HC.out _).mono ?_; rintro e w2 ⟨rfl, rfl⟩)
                | (go_at_call 27; refine (HD.out _).mono ?_; rintro e w2 ⟨rfl, rfl⟩)
                | (go_at_call 27; refine (HS.out _).mono ?_; rintro e w2 ⟨rfl, rfl⟩))
              refine (HM.out _).mono ?_
              rintro e w2 ⟨rfl, hk2⟩
              have hKa : Kept (fun _ => False) w _ := ((hK1.alloc (.cells (inVals x) 26)).alloc (.cells (inVals x) 26)).alloc (.cells (inVals x) 26)
              have hK2 : Kept (fun _ => False) w w2 := hKa.trans hk2 (fun _ _ h => h)
              have hb2 := hk2.blk (fun h => h) (((hb1.alloc (.cells (inVals x) 26)).alloc (.cells (inVals x) 26)).alloc (.cells (inVals x) 26))
              clear x0 x1 x2 x3 x4 hlt1 hlt2 hlt3 hlt4 hb1 hk2 hKa
              have x0 := hb2.cell 0
              have x1 := hb2.cell 1
              have x2 := hb2.cell 2
              have x3 := hb2.cell 3
              have x4 := hb2.cell 4
              have hlt1 := hb2.lt
              have hlt2 : w.heap.size < w2.heap.size + 1 := by omega
              have hlt3 : w.heap.size < w2.heap.size + 1 + 1 := by omega
              have hlt4 : w.heap.size < w2.heap.size + 1 + 1 + 1 := by omega
              go_wp2_with fail
              refine (HP.out _).mono ?_
              rintro e w3 ⟨rfl, hk3⟩
              have hK3 := hK2.trans hk3 (fun _ _ h => h)
              go_wp2_with fail
              go_ret2
              exact ⟨rfl, hK3.alloc _⟩
            case neg =>
              rw [show pofE x.imm = 0 from if_neg hn] at HP
              clear hn
              unfold protN at hcl2
              have hc4 := cntN_le x.imm.toNat
              obtain ⟨c, hc⟩ : ∃ c, cntN x.imm.toNat = c := ⟨_, rfl⟩
              rw [hc] at HN hcl2 hc4
              clear hc
              subst hcl2
              have hc5 : c = 0 ∨ c = 1 ∨ c = 2 ∨ c = 3 ∨ c = 4 := by omega
              clear hc4
              go_enter Try.func10, Try.ntmps10
              go_wp2_with fail
              refine (HK.out _).mono ?_
              rintro e w1 ⟨rfl, hk1⟩
              have hb1 := hk1.blk (fun h => h) hbB
              have x0 := hb1.cell 0
              have x1 := hb1.cell 1
              have x2 := hb1.cell 2
              have x3 := hb1.cell 3
              have x4 := hb1.cell 4
              have hlt1 := hb1.lt
              have hlt2 : w.heap.size < w1.heap.size + 1 := by omega
              have hlt3 : w.heap.size < w1.heap.size + 1 + 1 := by omega
              have hlt4 : w.heap.size < w1.heap.size + 1 + 1 + 1 := by omega
              have hK1 := hkB.trans hk1 (fun _ _ h => h)
              go_wp2_with (first
                | (go_at_call 24; refine (HO.out _).mono ?_; rintro e w2 ⟨rfl, rfl⟩)
                | (go_at_call 25; refine (HX.out _).mono ?_; rintro e w2 ⟨rfl, rfl⟩)
                | (go_at_call 26; refine (HC.out _).mono ?_; rintro e w2 ⟨rfl, rfl⟩)
                | (go_at_call 27; refine (HD.out _).mono ?_; rintro e w2 ⟨rfl, rfl⟩)
                | (go_at_call 27; refine (HS.out _).mono ?_; rintro e w2 ⟨rfl, rfl⟩))
              refine (HM.out _).mono ?_
              rintro e w2 ⟨rfl, hk2⟩
              have hKa : Kept (fun _ => False) w _ := ((hK1.alloc (.cells (inVals x) 26)).alloc (.cells (inVals x) 26)).alloc (.cells (inVals x) 26)
              have hK2 : Kept (fun _ => False) w w2 := hKa.trans hk2 (fun _ _ h => h)
              have hb2 := hk2.blk (fun h => h) (((hb1.alloc (.cells (inVals x) 26)).alloc (.cells (inVals x) 26)).alloc (.cells (inVals x) 26))
              clear x0 x1 x2 x3 x4 hlt1 hlt2 hlt3 hlt4 hb1 hk2 hKa
              have x0 := hb2.cell 0
              have x1 := hb2.cell 1
              have x2 := hb2.cell 2
              have x3 := hb2.cell 3
              have x4 := hb2.cell 4
              have hlt1 := hb2.lt
              have hlt2 : w.heap.size < w2.heap.size + 1 := by omega
              have hlt3 : w.heap.size < w2.heap.size + 1 + 1 := by omega
              have hlt4 : w.heap.size < w2.heap.size + 1 + 1 + 1 := by omega
              go_wp2_with fail
              refine (HP.out _).mono ?_
              rintro e w3 ⟨rfl, hk3⟩
              have hK3 := hK2.trans hk3 (fun _ _ h => h)
              go_wp2_with fail
              refine (HN.out _).mono ?_
              rintro e w4 ⟨rfl, hk4⟩
              have hK4 := (hK3.alloc _).trans hk4 (fun _ _ h => h)
              rcases hc5 with rfl | rfl | rfl | rfl | rfl
              all_goals
                go_wp2_with fail
                go_ret2
                exact ⟨rfl, hK4⟩
        · have b9 : (co == 9) = false := by simpa using h9
          have b8 : (co == 8) = false := by simpa using h8
          rw [if_neg (by rw [b9]; decide), if_neg (by rw [b8]; decide)] at hcl2
          subst hcl2
          clear h8 h9
          go_enter Try.func10, Try.ntmps10
          go_wp2_with fail
          refine (HK.out _).mono ?_
          rintro e w1 ⟨rfl, hk1⟩
          have hb1 := hk1.blk (fun h => h) hbB
          have x0 := hb1.cell 0
          have x1 := hb1.cell 1
          have x2 := hb1.cell 2
          have x3 := hb1.cell 3
          have x4 := hb1.cell 4
          have hlt1 := hb1.lt
          have hlt2 : w.heap.size < w1.heap.size + 1 := by omega
          have hlt3 : w.heap.size < w1.heap.size + 1 + 1 := by omega
          have hlt4 : w.heap.size < w1.heap.size + 1 + 1 + 1 := by omega
          have hK1 := hkB.trans hk1 (fun _ _ h => h)
          go_wp2_with (first
            | (go_at_call 24; refine (HO.out _).mono ?_; rintro e w2 ⟨rfl, rfl⟩)
            | (go_at_call 25; refine (HX.out _).mono ?_; rintro e w2 ⟨rfl, rfl⟩)
            | (go_at_call 26; refine (HC.out _).mono ?_; rintro e w2 ⟨rfl, rfl⟩)
            | (go_at_call 27; refine (HD.out _).mono ?_; rintro e w2 ⟨rfl, rfl⟩)
            | (go_at_call 27; refine (HS.out _).mono ?_; rintro e w2 ⟨rfl, rfl⟩))
          refine (HM.out _).mono ?_
          rintro e w2 ⟨rfl, hk2⟩
          have hKa : Kept (fun _ => False) w _ := ((hK1.alloc (.cells (inVals x) 26)).alloc (.cells (inVals x) 26)).alloc (.cells (inVals x) 26)
          have hK2 : Kept (fun _ => False) w w2 := hKa.trans hk2 (fun _ _ h => h)
          have hb2 := hk2.blk (fun h => h) (((hb1.alloc (.cells (inVals x) 26)).alloc (.cells (inVals x) 26)).alloc (.cells (inVals x) 26))
          clear x0 x1 x2 x3 x4 hlt1 hlt2 hlt3 hlt4 hb1 hk2 hKa
          have x0 := hb2.cell 0
          have x1 := hb2.cell 1
          have x2 := hb2.cell 2
          have x3 := hb2.cell 3
          have x4 := hb2.cell 4
          have hlt1 := hb2.lt
          have hlt2 : w.heap.size < w2.heap.size + 1 := by omega
          have hlt3 : w.heap.size < w2.heap.size + 1 + 1 := by omega
          have hlt4 : w.heap.size < w2.heap.size + 1 + 1 + 1 := by omega
          go_wp2_with (first
            | (go_at_call 24; refine (HO.out _).mono ?_; rintro e w2 ⟨rfl, rfl⟩)
            | (go_at_call 25; refine (HX.out _).mono ?_; rintro e w2 ⟨rfl, rfl⟩)
            | (go_at_call 26; refine (HC.out _).mono ?_; rintro e w2 ⟨rfl, rfl⟩)
            | (go_at_call 27; refine (HD.out _).mono ?_; rintro e w2 ⟨rfl, rfl⟩)
            | (go_at_call 27; refine (HS.out _).mono ?_; rintro e w2 ⟨rfl, rfl⟩))
          go_ret2
          exact ⟨rfl, by repeat (first | exact hK2 | refine Kept.alloc ?_ _ | refine Kept.drew ?_)⟩

end Go.Proofs.Ytopdoanfpjaehaa
