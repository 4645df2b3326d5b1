import Derived.Test.YtdchmelgaljpfaaGreatAe
import Derived.Test.YtdchmelgaljpfaaGreatJc
import Derived.Test.YtdchmelgaljpfaaGreatJm
import Derived.Test.YtdchmelgaljpfaaGreatNz
import Derived.Test.YtdchmelgaljpfaaGreatKc
set_option linter.unusedSimpArgs false
set_option linter.unusedVariables false
namespace Go.Proofs.YtdchmelgaljpfaaGreat
open Go.RowKit

section
variable {P : Program} {l : List Oper} {C : World → Prop} {ks : List Kd} {K : Act → World → Prop} {R : List Bool} {a : Act} {w : World}
theorem tree_fork3 (m r m' r' m2 r2 : List Bool) (hf : forks ks l R = [(idx m 0, idx r 0), (idx m' 0, idx r' 0), (idx m2 0, idx r2 0)]) (h : Mix P l.toArray C (fun a w => Tree P l C ks K r a w) (keep m ks) (keep m l) a w)
    (h' : Mix P l.toArray C (fun a w => Tree P l C ks K r' a w) (keep m' ks) (keep m' l) a w) (h2 : Mix P l.toArray C (fun a w => Tree P l C ks K r2 a w) (keep m2 ks) (keep m2 l) a w) : Tree P l C ks K R a w :=
  tree_forks [(m, r), (m', r'), (m2, r2)] hf (by simp) (fun s hs => by
    rcases List.mem_cons.1 hs with rfl | hs
    · exact h
    · rcases List.mem_cons.1 hs with rfl | hs
      · exact h'
      · obtain rfl := List.mem_singleton.1 hs; exact h2)
end
theorem naU8 : ∀ w, (isAgg 5).run Tryz.prog w = .ok false w := fun w => by kernel_rfl
theorem naI32A : ∀ w, (isAgg 21).run Tryz.prog w = .ok false w := fun w => by kernel_rfl
theorem valA_size (x : Option Nat) : (valA x).size = 4 := by unfold valA; rw [List.size_toArray, valC_len]
theorem valA_one (x : Option Nat) : ∀ y ∈ (valA x).toList, y.oneCell' = true := fun y hy => valC_one x y (by simpa [valA] using hy)
set_option maxHeartbeats 1000000 in
theorem num_any (n : Nat) (w : World) : Calls Tryz.prog 67 #[.int .u64 n] w fun e w' => e = .returned (.agg (valA (some n))) ∧ Kept (fun _ => False) w w' := by
  obtain ⟨i0, hi0, hi1⟩ := Option.map_eq_some_iff.1 infoVal
  have hb0 : Blk (w.alloc (.cells (valA none) 32)) w.heap.size 32 (valA none) := Blk.new w _ _
  have hk0 := (Kept.refl (fun _ => False) w).alloc (.cells (valA none) 32)
  go_enter Tryz.func67, Tryz.ntmps67
  go_wp2_with (refine wpList_storeB rfl _ _ 32 rfl hi0 w.heap.size 0 32 (valA none) (valA (some n)) rfl rfl (by rw [hi1, valA_size]) (by simp [valA_size]) (valA_one _) (by exact hb0) ?_; intro w2 hb2 hk2)
  have hk : Kept (fun _ => False) w w2 := hk0.trans hk2 (fun k hk e => by omega)
  have e : spliceA (valA none) 0 (valA (some n)) = valA (some n) := rfl
  rw [e] at hb2
  refine bodyPost_ret (v := .agg (valA (some n))) (results_cellA rfl _ _ w.heap.size _ _ (0, 0) _ rfl hb2 Tryz.underlying32 rfl (by kernel_rfl)) rfl ⟨rfl, hk⟩
theorem splice_val (x y : Option Nat) : spliceA (valA x) 0 (valA y) = valA y := by
  unfold spliceA valA
  simp [valC_len]
structure RN (b w : World) (A B : Option (Nat × Option Nat)) : Prop where
  kp : Kept (fun _ => False) b w
  a : ∀ g v, A = some (g, v) → b.heap.size ≤ g ∧ Blk w g 32 (valA v)
  b_ : ∀ g v, B = some (g, v) → b.heap.size ≤ g ∧ Blk w g 32 (valA v)
  ne : ∀ g v g' v', A = some (g, v) → B = some (g', v') → g ≠ g'
section
variable {b w w' : World} {A B : Option (Nat × Option Nat)} {g : Nat} {u v : Option Nat}
theorem RN.quiet (h : RN b w A B) (hk : Kept (fun _ => False) w w') : RN b w' A B :=
  ⟨h.kp.trans hk (fun _ _ e => e), fun g v e => ⟨(h.a g v e).1, hk.blk (fun e => e) (h.a g v e).2⟩, fun g v e => ⟨(h.b_ g v e).1, hk.blk (fun e => e) (h.b_ g v e).2⟩, h.ne⟩
theorem RN.new8 (h : RN b w none B) : RN b (w.alloc (.cells (valA none) 32)) (some (w.heap.size, none)) B where
  kp := h.kp.alloc _
  a := fun g v e => by cases e; exact ⟨h.kp.size, Blk.new w _ _⟩
  b_ := fun g v e => ⟨(h.b_ g v e).1, (h.b_ g v e).2.alloc _⟩
  ne := fun g v g' v' e e' => by cases e; have := (h.b_ g' v' e').2.lt; omega
theorem RN.new9 (h : RN b w A none) : RN b (w.alloc (.cells (valA none) 32)) A (some (w.heap.size, none)) where
  kp := h.kp.alloc _
  a := fun g v e => ⟨(h.a g v e).1, (h.a g v e).2.alloc _⟩
  b_ := fun g v e => by cases e; exact ⟨h.kp.size, Blk.new w _ _⟩
  ne := fun g v g' v' e e' => by cases e'; have := (h.a g v e).2.lt; omega
theorem RN.bA (h : RN b w (some (g, v)) B) : Blk w g 32 (valA v) := (h.a g v rfl).2
theorem RN.bB (h : RN b w A (some (g, v))) : Blk w g 32 (valA v) := (h.b_ g v rfl).2
theorem RN.stA (h : RN b w (some (g, v)) B) (hb : Blk w' g 32 (spliceA (valA v) 0 (valA u))) (hk : Kept (fun k => k = g) w w') : RN b w' (some (g, u)) B where
  kp := h.kp.trans hk fun k hk' e => by have := (h.a g v rfl).1; omega
  a := fun g' v' e => by cases e; rw [splice_val] at hb; exact ⟨(h.a g v rfl).1, hb⟩
  b_ := fun g' v' e => ⟨(h.b_ g' v' e).1, hk.blk (fun e2 => h.ne g v g' v' rfl e e2.symm) (h.b_ g' v' e).2⟩
  ne := fun g1 v1 g' v' e e' => by cases e; exact h.ne g v g' v' rfl e'
theorem RN.stB (h : RN b w A (some (g, v))) (hb : Blk w' g 32 (spliceA (valA v) 0 (valA u))) (hk : Kept (fun k => k = g) w w') : RN b w' A (some (g, u)) where
  kp := h.kp.trans hk fun k hk' e => by have := (h.b_ g v rfl).1; omega
  a := fun g' v' e => ⟨(h.a g' v' e).1, hk.blk (fun e2 => h.ne g' v' g v e rfl e2) (h.a g' v' e).2⟩
  b_ := fun g' v' e => by cases e; rw [splice_val] at hb; exact ⟨(h.b_ g v rfl).1, hb⟩
  ne := fun g1 v1 g' v' e e' => by cases e'; exact h.ne g1 v1 g v e rfl
end
/-- a slot's and a row's own copies -/
def RC (g2 g3 : Nat) (x : In) (r : KR) (w : World) : Prop := Blk w g2 75 (inVals x) ∧ Blk w g3 88 (rowA r)
theorem RC.quiet {g2 g3 : Nat} {x : In} {r : KR} {w w' : World} (h : RC g2 g3 x r w) (hk : Kept (fun _ => False) w w') : RC g2 g3 x r w' := ⟨hk.blk (fun e => e) h.1, hk.blk (fun e => e) h.2⟩
theorem RC.new {g2 g3 : Nat} {x : In} {r : KR} {w : World} (h : RC g2 g3 x r w) {o : Obj} : RC g2 g3 x r (w.alloc o) := ⟨h.1.alloc _, h.2.alloc _⟩
theorem RC.drew {g2 g3 : Nat} {x : In} {r : KR} {w : World} (h : RC g2 g3 x r w) : RC g2 g3 x r w.drew := h
theorem RN.drew {b w : World} {A B : Option (Nat × Option Nat)} (h : RN b w A B) : RN b w.drew A B := ⟨h.kp.drew, h.a, h.b_, h.ne⟩
theorem RN.start (w : World) : RN w w.drew none none := ⟨(Kept.refl _ w).drew, fun _ _ e => (by cases e), fun _ _ e => (by cases e), fun _ _ _ _ e => (by cases e)⟩
theorem RC.farA {g2 g3 : Nat} {x : In} {r : KR} {w w' b : World} {g : Nat} {u : Option Nat} {B : Option (Nat × Option Nat)} (h : RC g2 g3 x r w) (hk : Kept (fun k => k = g) w w') (hm : RN b w (some (g, u)) B) (h0 : g2 < b.heap.size) (h1 : g3 < b.heap.size) : RC g2 g3 x r w' := by
  have := (hm.a g u rfl).1
  exact ⟨hk.blk (fun e => by omega) h.1, hk.blk (fun e => by omega) h.2⟩
theorem RC.farB {g2 g3 : Nat} {x : In} {r : KR} {w w' b : World} {g : Nat} {u : Option Nat} {A : Option (Nat × Option Nat)} (h : RC g2 g3 x r w) (hk : Kept (fun k => k = g) w w') (hm : RN b w A (some (g, u))) (h0 : g2 < b.heap.size) (h1 : g3 < b.heap.size) : RC g2 g3 x r w' := by
  have := (hm.b_ g u rfl).1
  exact ⟨hk.blk (fun e => by omega) h.1, hk.blk (fun e => by omega) h.2⟩
/-! ### what an operation makes -/
def codeN (x : In) : Nat := (codeI x).toNat
def wideB (x : In) : Bool := decide (clsI x = 7)
def resV (x : In) (a b : Nat) : Nat := if codeI x = 13 then (if wideB x || xB x then turnN (x.imm.toNat / 8) a else a % 2 ^ x.imm.toNat) else doN (codeN x) (wideB x) a b
def opA (x : In) (r : KR) : Option Nat := if codeI x = 11 then some 0 else r.getD x.dst.toNat none
def opB (x : In) (r : KR) : Option Nat := if (xB x && decide (codeI x ≠ 13)) = true then r.getD x.src.toNat none else some (signN x.imm)
def resR (x : In) (r : KR) : Option Nat := match opA x r, opB x r with
  | some a, some b => some (resV x a b)
  | _, _ => none
structure Ari (x : In) (r : KR) : Prop where
  ok : InOk x
  cl : clsI x = 4 ∨ clsI x = 7
  cd : codeI x ≤ 13
  en : codeI x = 13 → x.imm = 16 ∨ x.imm = 32 ∨ x.imm = 64
  dst : x.dst ≤ 10
  src : x.src ≤ 10
  len : r.length = 11
  num : ∀ (i : Nat) (v : Nat), r[i]? = some (some v) → v < 18446744073709551616
set_option maxHeartbeats 4000000 in
set_option maxRecDepth 100000 in
theorem result_any (x : In) (r : KR) (w : World) (h : Ari x r) : Calls Tryz.prog 24 #[.agg (inVals x), .agg (rowA r)] w fun e w' => e = .returned (.tuple #[.int .u64 (((resR x r).getD 0 : Nat) : Int), .bool (resR x r).isSome]) ∧ Kept (fun _ => False) w w' := by
  obtain ⟨i0, hV0, hV1⟩ := Option.map_eq_some_iff.1 infoVal
  have h7 := and7 h.ok.op
  have h8 := and8x h.ok
  have hdst := h.ok.dst
  have hsrc := h.ok.src
  have hd10 := h.dst
  have hs10 := h.src
  obtain ⟨va, hva⟩ : ∃ va, r[x.dst.toNat]? = some va := ⟨_, List.getElem?_eq_getElem (by rw [h.len]; omega)⟩
  obtain ⟨vs, hvs⟩ : ∃ vs, r[x.src.toNat]? = some vs := ⟨_, List.getElem?_eq_getElem (by rw [h.len]; omega)⟩
  have HVA := Lib.hid hva
  have HVS := Lib.hid hvs
  have HSG := Lib.hid (fun W => asign_any x.imm W h.ok.imm)
  have hOA : opA x r = if codeI x = 11 then some 0 else va := by unfold opA; rw [List.getD_eq_getElem?_getD, hva]; rfl
  have hOB : opB x r = if (xB x && decide (codeI x ≠ 13)) = true then vs else some (signN x.imm) := by unfold opB; rw [List.getD_eq_getElem?_getD, hvs]; rfl
  have hcl : (x.op % 8 == 7) = wideB x := by unfold wideB clsI; exact Bool.beq_eq_decide_eq _ _
  have hRR : resR x r = match opA x r, opB x r with | some a, some b => some (resV x a b) | _, _ => none := rfl
  have HOA := Lib.hid hOA
  have HOB := Lib.hid hOB
  have HRR := Lib.hid hRR
  have HI0 := Lib.hid hV0
  have HI1 := Lib.hid hV1
  clear hOA hOB hRR hva hvs hV0 hV1
  have hkE : Kept (fun _ => False) w ((w.alloc (.cells (inVals x) 75)).alloc (.cells (rowA r) 88)) := ((Kept.refl _ w).alloc _).alloc _
  have hcE : RC w.heap.size (w.heap.size + 1) x r ((w.alloc (.cells (inVals x) 75)).alloc (.cells (rowA r) 88)) := ⟨(Blk.new w _ _).alloc _, by have := Blk.new (w.alloc (.cells (inVals x) 75)) 88 (rowA r); simpa using this⟩
  have HKE := Lib.hid hkE
  clear hkE
  have hk2 := h.cd
  have hnum := h.num
  have hen := h.en
  have hbd : 0 ≤ codeI x := by unfold codeI; have := h.ok.op; omega
  generalize hk0 : codeI x = k at *
  have hk1 : x.op / 16 = k := hk0
  have hwk : wrap64 k = k := by unfold wrap64; omega
  generalize hwd : wideB x = wd at *
  generalize hxb : xB x = xb at *
  have HDO : Hid (∀ a b W, k ≠ 13 → a < 18446744073709551616 → b < 18446744073709551616 → Calls Tryz.prog 14 #[.int .i64 k, .bool wd, .int .u64 (a : Nat), .int .u64 (b : Nat)] W fun e w' => e = .returned (.tuple #[.int .u64 ((doN k.toNat wd a b : Nat) : Int), .bool true]) ∧ Kept (fun _ => False) W w') := by
    refine Lib.hid (fun a b W hne ha hb => ?_)
    have hks : k = 0 ∨ k = 1 ∨ k = 2 ∨ k = 3 ∨ k = 4 ∨ k = 5 ∨ k = 6 ∨ k = 7 ∨ k = 8 ∨ k = 9 ∨ k = 10 ∨ k = 11 ∨ k = 12 := by omega
    clear hk0 hk1 hwk
    rcases hks with rfl | rfl | rfl | rfl | rfl | rfl | rfl | rfl | rfl | rfl | rfl | rfl | rfl
    · exact do_0 wd a b W ha hb
    · exact do_1 wd a b W ha hb
    · exact do_2 wd a b W ha hb
    · exact do_3 wd a b W ha hb
    · exact do_4 wd a b W ha hb
    · exact do_5 wd a b W ha hb
    · exact do_6 wd a b W ha hb
    · exact do_7 wd a b W ha hb
    · exact do_8 wd a b W ha hb
    · exact do_9 wd a b W ha hb
    · exact do_10 wd a b W ha hb
    · exact do_11 wd a b W ha hb
    · exact do_12 wd a b W ha hb
  have HCK := Lib.hid hk0
  have HWD := Lib.hid hwd
  have HXB := Lib.hid hxb
  have HEN := Lib.hid hen
  have HNM := Lib.hid hnum
  have hnum := HNM.out
  clear hk0 hwd hxb hk2 hen hbd hnum h
  go_enter Tryz.func24, Tryz.ntmps24
  go_wp2_with fail
  refine wp_region_mix0 [.w, .l, .w, .w, .w, .l, .w, .w, .w, .w] (by kernel_rfl) (by kernel_rfl) ?_
  refine mix_w1 ?_; go_big_quiet_step (fail); refine wpQuiet_nil ?_
  refine mix_l1 rfl ?_; go_big_quiet_step (fail); refine wpQuiet_nil ?_
  refine mix_w1 ?_; go_big_quiet_step (fail); refine wpQuiet_nil ?_
  refine mix_w1 ?_; go_big_quiet_step (fail); refine wpQuiet_nil ?_
  refine mix_w1 ?_; go_big_quiet_step (fail); refine wpQuiet_nil ?_
  refine mix_l1 rfl ?_; go_big_quiet_step (fail); refine wpQuiet_nil ?_
  refine mix_w1 ?_; go_big_quiet_step (fail); refine wpQuiet_nil ?_
  refine mix_w1 ?_; go_big_quiet_step (fail); refine wpQuiet_nil ?_
  refine mix_w1 ?_; go_big_quiet_step (fail); refine wpQuiet_nil ?_
  refine mix_w1 ?_; go_big_quiet_step (fail); refine wpQuiet_nil ?_
  refine mix_nil ?_
  have hg2 : w.heap.size < ((w.alloc (.cells (inVals x) 75)).alloc (.cells (rowA r) 88)).heap.size := by simp; omega
  have hg3 : w.heap.size + 1 < ((w.alloc (.cells (inVals x) 75)).alloc (.cells (rowA r) 88)).heap.size := by simp
  generalize (w.alloc (.cells (inVals x) 75)).alloc (.cells (rowA r) 88) = wA at *
  generalize w.heap.size = g2 at *
  go_wp2_with fail
  refine Code.wp_mono (Q := fun e a' w' => e = .normal ∧ ∃ gA gB u18 u19 u20 u21 u22 u23 u24 u25, RN wA w' (some (gA, va)) (some (gB, some (signN x.imm))) ∧ RC g2 (g2 + 1) x r w' ∧ a' = { tmps := #[.agg (inVals x), .agg (rowA r), .pointer (some ⟨g2, 0, none⟩), .pointer (some ⟨g2 + 1, 0, none⟩), .int .u64 0, .bool false, .int .i64 k, .bool wd, .pointer (some ⟨gA, 0, none⟩), .pointer (some ⟨gB, 0, none⟩), .pointer (some ⟨g2, 0, none⟩), .int .u8 x.op, .int .u8 k, .int .i64 k, .pointer (some ⟨g2, 0, none⟩), .int .u8 x.op, .int .u8 (x.op % 8), .bool wd, u18, u19, u20, u21, u22, u23, u24, u25, undef, undef, undef, undef, undef, undef, undef, undef, undef, undef, undef, undef, undef, undef, undef, undef, undef, undef, undef, undef, undef, undef, undef, undef, undef, undef, undef, undef, undef, undef, undef, undef, undef, undef, undef, undef, undef, undef, undef, undef, undef, undef, undef, undef, undef, undef, undef, undef, undef, undef, undef, undef, undef, undef, undef, undef, undef, undef], defers := [] }) ?_ ?_
  rotate_left
  · clear HOA HOB HRR HKE HVS HDO HCK HWD HXB HEN HNM
    refine wp_region_tree [.w, .l, .w, .l, .w, .l, .k, .k, .k, .k, .t, .t] (RC g2 (g2 + 1) x r) [true, true, true, true, true, true, true, true, true, true, true, true] (by kernel_rfl) (by kernel_rfl) (by kernel_rfl) ?_
    have hm0 : RN wA wA.drew none none := RN.start wA
    have hc0 : RC g2 (g2 + 1) x r wA.drew := hcE.drew
    clear hcE
    generalize wA.drew = w0a at *
    refine tree_fork3 [false, false, false, false, true, true, true, false, false, false, false, false] [true, true, true, true, false, false, false, true, true, true, true, true] [false, false, false, false, false, false, false, false, true, false, false, false] [true, true, true, true, true, true, true, true, false, true, true, true] [false, false, false, false, false, false, false, false, false, true, false, false] [true, true, true, true, true, true, true, true, true, false, true, true] (by kernel_rfl) ?_ ?_ ?_
    · simp only [keep]
      refine mix_w1 ?_; go_big_quiet_step (fail); refine wpQuiet_nil ?_
      refine mix_load1 hc0 rfl 21 _ rfl naI32A ⟨g2, 4, none⟩ (.int .i32 x.imm) rfl (fun w' hb => by rw [hb.1.cell]; rfl) ?_
      try simp only [Act.put, List.setIfInBounds_toArray, List.set_cons_succ, List.set_cons_zero]
      refine mix_k (by exact hc0) fun Q' hQ' => ?_
      have hcd1 := RC.drew hc0
      have hmd1 := RN.drew hm0
      generalize w0a.drew = wd1 at *
      go_wp2_with fail
      refine (HSG.out _).mono ?_
      rintro e w1a ⟨rfl, rfl⟩
      go_wp2_with fail
      refine hQ' _ _ hcd1 ?_
      clear hQ' Q'
      refine mix_done ?_
      try simp only [Act.put, List.setIfInBounds_toArray, List.set_cons_succ, List.set_cons_zero]
      refine tree_fork3 [false, false, false, false, false, false, false, true, false, false, false, false] [true, true, true, true, false, false, false, false, true, true, true, true] [false, false, false, false, false, false, false, false, true, false, false, false] [true, true, true, true, false, false, false, true, false, true, true, true] [false, false, false, false, false, false, false, false, false, true, false, false] [true, true, true, true, false, false, false, true, true, false, true, true] (by kernel_rfl) ?_ ?_ ?_
      · simp only [keep]
        refine mix_k (by exact hcd1) fun Q' hQ' => ?_
        go_wp2_with fail
        refine (num_any _ _).mono ?_
        rintro e w2a ⟨rfl, hk2⟩
        go_wp2_with fail
        have hc2 := RC.quiet hcd1 hk2
        have hm2 := RN.quiet hmd1 hk2
        refine hQ' _ _ hc2 ?_
        clear hQ' Q' hk2
        refine mix_done ?_
        try simp only [Act.put, List.setIfInBounds_toArray, List.set_cons_succ, List.set_cons_zero]
        refine tree_fork2 [false, false, false, false, false, false, false, false, true, false, false, false] [true, true, true, true, false, false, false, false, false, true, true, true] [false, false, false, false, false, false, false, false, false, true, false, false] [true, true, true, true, false, false, false, false, true, false, true, true] (by kernel_rfl) ?_ ?_
        · simp only [keep]
          refine mix_k (by exact hc2) fun Q' hQ' => ?_
          go_wp2_with fail
          have hc3 : RC g2 (g2 + 1) x r (w2a.alloc (.cells #[.int .i64 0, .int .u64 0, .int .i64 0, .int .i64 0] 32)) := RC.new hc2
          have hm3 : RN wA (w2a.alloc (.cells #[.int .i64 0, .int .u64 0, .int .i64 0, .int .i64 0] 32)) _ _ := RN.new8 hm2
          refine hQ' _ _ hc3 ?_
          clear hQ' Q'
          generalize w2a.alloc (.cells #[.int .i64 0, .int .u64 0, .int .i64 0, .int .i64 0] 32) = w3a at *
          refine mix_done ?_
          try simp only [Act.put, List.setIfInBounds_toArray, List.set_cons_succ, List.set_cons_zero]
          refine tree_fork1 [false, false, false, false, false, false, false, false, false, true, false, false] [true, true, true, true, false, false, false, false, false, false, true, true] (by kernel_rfl) ?_
          simp only [keep]
          refine mix_k (by exact hc3) fun Q' hQ' => ?_
          go_wp2_with fail
          have hc4 : RC g2 (g2 + 1) x r (w3a.alloc (.cells #[.int .i64 0, .int .u64 0, .int .i64 0, .int .i64 0] 32)) := RC.new hc3
          have hm4 : RN wA (w3a.alloc (.cells #[.int .i64 0, .int .u64 0, .int .i64 0, .int .i64 0] 32)) _ _ := RN.new9 hm3
          refine hQ' _ _ hc4 ?_
          clear hQ' Q'
          generalize w3a.alloc (.cells #[.int .i64 0, .int .u64 0, .int .i64 0, .int .i64 0] 32) = w4a at *
          refine mix_done ?_
          try simp only [Act.put, List.setIfInBounds_toArray, List.set_cons_succ, List.set_cons_zero]
          refine tree_fork1 [true, true, true, true, false, false, false, false, false, false, true, false] [false, false, false, false, false, false, false, false, false, false, false, true] (by kernel_rfl) ?_
          simp only [keep]
          refine mix_w1 ?_; go_big_quiet_step (fail); refine wpQuiet_nil ?_
          refine mix_load1 hc4 rfl 5 _ rfl naU8 ⟨g2, 1, none⟩ (.int .u8 x.dst) rfl (fun w' hb => by rw [hb.1.cell]; rfl) ?_
          try simp only [Act.put, List.setIfInBounds_toArray, List.set_cons_succ, List.set_cons_zero]
          refine mix_w1 ?_; go_big_quiet_step (fail); refine wpQuiet_nil ?_
          refine mix_loadB hc4 rfl _ 32 rfl aggVal HI0.out (valA va) (by rw [HI1.out, valA_size]) ⟨g2 + 1, x.dst.toNat * 4, none⟩ (by first | rfl | exact hidx) (fun w' hb k u hu => by rw [add_n, hb.2.cell]; exact rowA_get HVA.out k u hu) ?_
          try simp only [Act.put, List.setIfInBounds_toArray, List.set_cons_succ, List.set_cons_zero]
          refine mix_t fun Q' hQ' => ?_
          refine wpList_storeB rfl _ _ 32 rfl HI0.out _ 0 32 (valA none) (valA va) rfl rfl (by rw [HI1.out, valA_size]) (by simp [valA_size]) (by exact valA_one _) hm4.bA ?_
          intro w5a hb5 hk5
          refine hQ' _ _ ?_
          clear hQ' Q'
          have hm5 := hm4.stA hb5 hk5
          have hc5 := RC.farA hc4 hk5 hm4 hg2 hg3
          refine mix_done ?_
          try simp only [Act.put, List.setIfInBounds_toArray, List.set_cons_succ, List.set_cons_zero]
          refine tree_fork1 [false, false, false, false, false, false, false, false, false, false, false, true] [false, false, false, false, false, false, false, false, false, false, false, false] (by kernel_rfl) ?_
          simp only [keep]
          refine mix_t fun Q' hQ' => ?_
          refine wpList_storeB rfl _ _ 32 rfl HI0.out _ 0 32 (valA none) (valA (some (signN x.imm))) rfl rfl (by rw [HI1.out, valA_size]) (by simp [valA_size]) (by exact valA_one _) hm5.bB ?_
          intro w6a hb6 hk6
          refine hQ' _ _ ?_
          clear hQ' Q'
          have hm6 := hm5.stB hb6 hk6
          have hc6 := RC.farB hc5 hk6 hm5 hg2 hg3
          refine mix_done ?_
          try simp only [Act.put, List.setIfInBounds_toArray, List.set_cons_succ, List.set_cons_zero]
          refine tree_last (by kernel_rfl) ?_
          simp only [keep]
          refine mix_done ?_
          exact ⟨(by first | rfl | trivial), _, _, _, _, _, _, _, _, _, _, hm6, hc6, rfl⟩
        · simp only [keep]
          refine mix_k (by exact hc2) fun Q' hQ' => ?_
          go_wp2_with fail
          have hc7 : RC g2 (g2 + 1) x r (w2a.alloc (.cells #[.int .i64 0, .int .u64 0, .int .i64 0, .int .i64 0] 32)) := RC.new hc2
          have hm7 : RN wA (w2a.alloc (.cells #[.int .i64 0, .int .u64 0, .int .i64 0, .int .i64 0] 32)) _ _ := RN.new9 hm2
          refine hQ' _ _ hc7 ?_
          clear hQ' Q'
          generalize w2a.alloc (.cells #[.int .i64 0, .int .u64 0, .int .i64 0, .int .i64 0] 32) = w7a at *
          refine mix_done ?_
          try simp only [Act.put, List.setIfInBounds_toArray, List.set_cons_succ, List.set_cons_zero]
          refine tree_fork1 [false, false, false, false, false, false, false, false, true, false, false, false] [true, true, true, true, false, false, false, false, false, false, true, true] (by kernel_rfl) ?_
          simp only [keep]
          refine mix_k (by exact hc7) fun Q' hQ' => ?_
          go_wp2_with fail
          have hc8 : RC g2 (g2 + 1) x r (w7a.alloc (.cells #[.int .i64 0, .int .u64 0, .int .i64 0, .int .i64 0] 32)) := RC.new hc7
          have hm8 : RN wA (w7a.alloc (.cells #[.int .i64 0, .int .u64 0, .int .i64 0, .int .i64 0] 32)) _ _ := RN.new8 hm7
          refine hQ' _ _ hc8 ?_
          clear hQ' Q'
          generalize w7a.alloc (.cells #[.int .i64 0, .int .u64 0, .int .i64 0, .int .i64 0] 32) = w8a at *
          refine mix_done ?_
          try simp only [Act.put, List.setIfInBounds_toArray, List.set_cons_succ, List.set_cons_zero]
          refine tree_fork1 [true, true, true, true, false, false, false, false, false, false, true, false] [false, false, false, false, false, false, false, false, false, false, false, true] (by kernel_rfl) ?_
          simp only [keep]
          refine mix_w1 ?_; go_big_quiet_step (fail); refine wpQuiet_nil ?_
          refine mix_load1 hc8 rfl 5 _ rfl naU8 ⟨g2, 1, none⟩ (.int .u8 x.dst) rfl (fun w' hb => by rw [hb.1.cell]; rfl) ?_
          try simp only [Act.put, List.setIfInBounds_toArray, List.set_cons_succ, List.set_cons_zero]
          refine mix_w1 ?_; go_big_quiet_step (fail); refine wpQuiet_nil ?_
          refine mix_loadB hc8 rfl _ 32 rfl aggVal HI0.out (valA va) (by rw [HI1.out, valA_size]) ⟨g2 + 1, x.dst.toNat * 4, none⟩ (by first | rfl | exact hidx) (fun w' hb k u hu => by rw [add_n, hb.2.cell]; exact rowA_get HVA.out k u hu) ?_
          try simp only [Act.put, List.setIfInBounds_toArray, List.set_cons_succ, List.set_cons_zero]
          refine mix_t fun Q' hQ' => ?_
          refine wpList_storeB rfl _ _ 32 rfl HI0.out _ 0 32 (valA none) (valA va) rfl rfl (by rw [HI1.out, valA_size]) (by simp [valA_size]) (by exact valA_one _) hm8.bA ?_
          intro w9a hb9 hk9
          refine hQ' _ _ ?_
          clear hQ' Q'
          have hm9 := hm8.stA hb9 hk9
          have hc9 := RC.farA hc8 hk9 hm8 hg2 hg3
          refine mix_done ?_
          try simp only [Act.put, List.setIfInBounds_toArray, List.set_cons_succ, List.set_cons_zero]
          refine tree_fork1 [false, false, false, false, false, false, false, false, false, false, false, true] [false, false, false, false, false, false, false, false, false, false, false, false] (by kernel_rfl) ?_
          simp only [keep]
          refine mix_t fun Q' hQ' => ?_
          refine wpList_storeB rfl _ _ 32 rfl HI0.out _ 0 32 (valA none) (valA (some (signN x.imm))) rfl rfl (by rw [HI1.out, valA_size]) (by simp [valA_size]) (by exact valA_one _) hm9.bB ?_
          intro w10a hb10 hk10
          refine hQ' _ _ ?_
          clear hQ' Q'
          have hm10 := hm9.stB hb10 hk10
          have hc10 := RC.farB hc9 hk10 hm9 hg2 hg3
          refine mix_done ?_
          try simp only [Act.put, List.setIfInBounds_toArray, List.set_cons_succ, List.set_cons_zero]
          refine tree_last (by kernel_rfl) ?_
          simp only [keep]
          refine mix_done ?_
          exact ⟨(by first | rfl | trivial), _, _, _, _, _, _, _, _, _, _, hm10, hc10, rfl⟩
      · simp only [keep]
        refine mix_k (by exact hcd1) fun Q' hQ' => ?_
        go_wp2_with fail
        have hc11 : RC g2 (g2 + 1) x r (wd1.alloc (.cells #[.int .i64 0, .int .u64 0, .int .i64 0, .int .i64 0] 32)) := RC.new hcd1
        have hm11 : RN wA (wd1.alloc (.cells #[.int .i64 0, .int .u64 0, .int .i64 0, .int .i64 0] 32)) _ _ := RN.new8 hmd1
        refine hQ' _ _ hc11 ?_
        clear hQ' Q'
        generalize wd1.alloc (.cells #[.int .i64 0, .int .u64 0, .int .i64 0, .int .i64 0] 32) = w11a at *
        refine mix_done ?_
        try simp only [Act.put, List.setIfInBounds_toArray, List.set_cons_succ, List.set_cons_zero]
        refine tree_fork2 [false, false, false, false, false, false, false, true, false, false, false, false] [true, true, true, true, false, false, false, false, false, true, true, true] [false, false, false, false, false, false, false, false, false, true, false, false] [true, true, true, true, false, false, false, true, false, false, true, true] (by kernel_rfl) ?_ ?_
        · simp only [keep]
          refine mix_k (by exact hc11) fun Q' hQ' => ?_
          go_wp2_with fail
          refine (num_any _ _).mono ?_
          rintro e w12a ⟨rfl, hk12⟩
          go_wp2_with fail
          have hc12 := RC.quiet hc11 hk12
          have hm12 := RN.quiet hm11 hk12
          refine hQ' _ _ hc12 ?_
          clear hQ' Q' hk12
          refine mix_done ?_
          try simp only [Act.put, List.setIfInBounds_toArray, List.set_cons_succ, List.set_cons_zero]
          refine tree_fork1 [false, false, false, false, false, false, false, false, false, true, false, false] [true, true, true, true, false, false, false, false, false, false, true, true] (by kernel_rfl) ?_
          simp only [keep]
          refine mix_k (by exact hc12) fun Q' hQ' => ?_
          go_wp2_with fail
          have hc13 : RC g2 (g2 + 1) x r (w12a.alloc (.cells #[.int .i64 0, .int .u64 0, .int .i64 0, .int .i64 0] 32)) := RC.new hc12
          have hm13 : RN wA (w12a.alloc (.cells #[.int .i64 0, .int .u64 0, .int .i64 0, .int .i64 0] 32)) _ _ := RN.new9 hm12
          refine hQ' _ _ hc13 ?_
          clear hQ' Q'
          generalize w12a.alloc (.cells #[.int .i64 0, .int .u64 0, .int .i64 0, .int .i64 0] 32) = w13a at *
          refine mix_done ?_
          try simp only [Act.put, List.setIfInBounds_toArray, List.set_cons_succ, List.set_cons_zero]
          refine tree_fork1 [true, true, true, true, false, false, false, false, false, false, true, false] [false, false, false, false, false, false, false, false, false, false, false, true] (by kernel_rfl) ?_
          simp only [keep]
          refine mix_w1 ?_; go_big_quiet_step (fail); refine wpQuiet_nil ?_
          refine mix_load1 hc13 rfl 5 _ rfl naU8 ⟨g2, 1, none⟩ (.int .u8 x.dst) rfl (fun w' hb => by rw [hb.1.cell]; rfl) ?_
          try simp only [Act.put, List.setIfInBounds_toArray, List.set_cons_succ, List.set_cons_zero]
          refine mix_w1 ?_; go_big_quiet_step (fail); refine wpQuiet_nil ?_
          refine mix_loadB hc13 rfl _ 32 rfl aggVal HI0.out (valA va) (by rw [HI1.out, valA_size]) ⟨g2 + 1, x.dst.toNat * 4, none⟩ (by first | rfl | exact hidx) (fun w' hb k u hu => by rw [add_n, hb.2.cell]; exact rowA_get HVA.out k u hu) ?_
          try simp only [Act.put, List.setIfInBounds_toArray, List.set_cons_succ, List.set_cons_zero]
          refine mix_t fun Q' hQ' => ?_
          refine wpList_storeB rfl _ _ 32 rfl HI0.out _ 0 32 (valA none) (valA va) rfl rfl (by rw [HI1.out, valA_size]) (by simp [valA_size]) (by exact valA_one _) hm13.bA ?_
          intro w14a hb14 hk14
          refine hQ' _ _ ?_
          clear hQ' Q'
          have hm14 := hm13.stA hb14 hk14
          have hc14 := RC.farA hc13 hk14 hm13 hg2 hg3
          refine mix_done ?_
          try simp only [Act.put, List.setIfInBounds_toArray, List.set_cons_succ, List.set_cons_zero]
          refine tree_fork1 [false, false, false, false, false, false, false, false, false, false, false, true] [false, false, false, false, false, false, false, false, false, false, false, false] (by kernel_rfl) ?_
          simp only [keep]
          refine mix_t fun Q' hQ' => ?_
          refine wpList_storeB rfl _ _ 32 rfl HI0.out _ 0 32 (valA none) (valA (some (signN x.imm))) rfl rfl (by rw [HI1.out, valA_size]) (by simp [valA_size]) (by exact valA_one _) hm14.bB ?_
          intro w15a hb15 hk15
          refine hQ' _ _ ?_
          clear hQ' Q'
          have hm15 := hm14.stB hb15 hk15
          have hc15 := RC.farB hc14 hk15 hm14 hg2 hg3
          refine mix_done ?_
          try simp only [Act.put, List.setIfInBounds_toArray, List.set_cons_succ, List.set_cons_zero]
          refine tree_last (by kernel_rfl) ?_
          simp only [keep]
          refine mix_done ?_
          exact ⟨(by first | rfl | trivial), _, _, _, _, _, _, _, _, _, _, hm15, hc15, rfl⟩
        · simp only [keep]
          refine mix_k (by exact hc11) fun Q' hQ' => ?_
          go_wp2_with fail
          have hc16 : RC g2 (g2 + 1) x r (w11a.alloc (.cells #[.int .i64 0, .int .u64 0, .int .i64 0, .int .i64 0] 32)) := RC.new hc11
          have hm16 : RN wA (w11a.alloc (.cells #[.int .i64 0, .int .u64 0, .int .i64 0, .int .i64 0] 32)) _ _ := RN.new9 hm11
          refine hQ' _ _ hc16 ?_
          clear hQ' Q'
          generalize w11a.alloc (.cells #[.int .i64 0, .int .u64 0, .int .i64 0, .int .i64 0] 32) = w16a at *
          refine mix_done ?_
          try simp only [Act.put, List.setIfInBounds_toArray, List.set_cons_succ, List.set_cons_zero]
          refine tree_fork1 [false, false, false, false, false, false, false, true, false, false, false, false] [true, true, true, true, false, false, false, false, false, false, true, true] (by kernel_rfl) ?_
          simp only [keep]
          refine mix_k (by exact hc16) fun Q' hQ' => ?_
          go_wp2_with fail
          refine (num_any _ _).mono ?_
          rintro e w17a ⟨rfl, hk17⟩
          go_wp2_with fail
          have hc17 := RC.quiet hc16 hk17
          have hm17 := RN.quiet hm16 hk17
          refine hQ' _ _ hc17 ?_
          clear hQ' Q' hk17
          refine mix_done ?_
          try simp only [Act.put, List.setIfInBounds_toArray, List.set_cons_succ, List.set_cons_zero]
          refine tree_fork1 [true, true, true, true, false, false, false, false, false, false, true, false] [false, false, false, false, false, false, false, false, false, false, false, true] (by kernel_rfl) ?_
          simp only [keep]
          refine mix_w1 ?_; go_big_quiet_step (fail); refine wpQuiet_nil ?_
          refine mix_load1 hc17 rfl 5 _ rfl naU8 ⟨g2, 1, none⟩ (.int .u8 x.dst) rfl (fun w' hb => by rw [hb.1.cell]; rfl) ?_
          try simp only [Act.put, List.setIfInBounds_toArray, List.set_cons_succ, List.set_cons_zero]
          refine mix_w1 ?_; go_big_quiet_step (fail); refine wpQuiet_nil ?_
          refine mix_loadB hc17 rfl _ 32 rfl aggVal HI0.out (valA va) (by rw [HI1.out, valA_size]) ⟨g2 + 1, x.dst.toNat * 4, none⟩ (by first | rfl | exact hidx) (fun w' hb k u hu => by rw [add_n, hb.2.cell]; exact rowA_get HVA.out k u hu) ?_
          try simp only [Act.put, List.setIfInBounds_toArray, List.set_cons_succ, List.set_cons_zero]
          refine mix_t fun Q' hQ' => ?_
          refine wpList_storeB rfl _ _ 32 rfl HI0.out _ 0 32 (valA none) (valA va) rfl rfl (by rw [HI1.out, valA_size]) (by simp [valA_size]) (by exact valA_one _) hm17.bA ?_
          intro w18a hb18 hk18
          refine hQ' _ _ ?_
          clear hQ' Q'
          have hm18 := hm17.stA hb18 hk18
          have hc18 := RC.farA hc17 hk18 hm17 hg2 hg3
          refine mix_done ?_
          try simp only [Act.put, List.setIfInBounds_toArray, List.set_cons_succ, List.set_cons_zero]
          refine tree_fork1 [false, false, false, false, false, false, false, false, false, false, false, true] [false, false, false, false, false, false, false, false, false, false, false, false] (by kernel_rfl) ?_
          simp only [keep]
          refine mix_t fun Q' hQ' => ?_
          refine wpList_storeB rfl _ _ 32 rfl HI0.out _ 0 32 (valA none) (valA (some (signN x.imm))) rfl rfl (by rw [HI1.out, valA_size]) (by simp [valA_size]) (by exact valA_one _) hm18.bB ?_
          intro w19a hb19 hk19
          refine hQ' _ _ ?_
          clear hQ' Q'
          have hm19 := hm18.stB hb19 hk19
          have hc19 := RC.farB hc18 hk19 hm18 hg2 hg3
          refine mix_done ?_
          try simp only [Act.put, List.setIfInBounds_toArray, List.set_cons_succ, List.set_cons_zero]
          refine tree_last (by kernel_rfl) ?_
          simp only [keep]
          refine mix_done ?_
          exact ⟨(by first | rfl | trivial), _, _, _, _, _, _, _, _, _, _, hm19, hc19, rfl⟩
      · simp only [keep]
        refine mix_k (by exact hcd1) fun Q' hQ' => ?_
        go_wp2_with fail
        have hc20 : RC g2 (g2 + 1) x r (wd1.alloc (.cells #[.int .i64 0, .int .u64 0, .int .i64 0, .int .i64 0] 32)) := RC.new hcd1
        have hm20 : RN wA (wd1.alloc (.cells #[.int .i64 0, .int .u64 0, .int .i64 0, .int .i64 0] 32)) _ _ := RN.new9 hmd1
        refine hQ' _ _ hc20 ?_
        clear hQ' Q'
        generalize wd1.alloc (.cells #[.int .i64 0, .int .u64 0, .int .i64 0, .int .i64 0] 32) = w20a at *
        refine mix_done ?_
        try simp only [Act.put, List.setIfInBounds_toArray, List.set_cons_succ, List.set_cons_zero]
        refine tree_fork2 [false, false, false, false, false, false, false, true, false, false, false, false] [true, true, true, true, false, false, false, false, true, false, true, true] [false, false, false, false, false, false, false, false, true, false, false, false] [true, true, true, true, false, false, false, true, false, false, true, true] (by kernel_rfl) ?_ ?_
        · simp only [keep]
          refine mix_k (by exact hc20) fun Q' hQ' => ?_
          go_wp2_with fail
          refine (num_any _ _).mono ?_
          rintro e w21a ⟨rfl, hk21⟩
          go_wp2_with fail
          have hc21 := RC.quiet hc20 hk21
          have hm21 := RN.quiet hm20 hk21
          refine hQ' _ _ hc21 ?_
          clear hQ' Q' hk21
          refine mix_done ?_
          try simp only [Act.put, List.setIfInBounds_toArray, List.set_cons_succ, List.set_cons_zero]
          refine tree_fork1 [false, false, false, false, false, false, false, false, true, false, false, false] [true, true, true, true, false, false, false, false, false, false, true, true] (by kernel_rfl) ?_
          simp only [keep]
          refine mix_k (by exact hc21) fun Q' hQ' => ?_
          go_wp2_with fail
          have hc22 : RC g2 (g2 + 1) x r (w21a.alloc (.cells #[.int .i64 0, .int .u64 0, .int .i64 0, .int .i64 0] 32)) := RC.new hc21
          have hm22 : RN wA (w21a.alloc (.cells #[.int .i64 0, .int .u64 0, .int .i64 0, .int .i64 0] 32)) _ _ := RN.new8 hm21
          refine hQ' _ _ hc22 ?_
          clear hQ' Q'
          generalize w21a.alloc (.cells #[.int .i64 0, .int .u64 0, .int .i64 0, .int .i64 0] 32) = w22a at *
          refine mix_done ?_
          try simp only [Act.put, List.setIfInBounds_toArray, List.set_cons_succ, List.set_cons_zero]
          refine tree_fork1 [true, true, true, true, false, false, false, false, false, false, true, false] [false, false, false, false, false, false, false, false, false, false, false, true] (by kernel_rfl) ?_
          simp only [keep]
          refine mix_w1 ?_; go_big_quiet_step (fail); refine wpQuiet_nil ?_
          refine mix_load1 hc22 rfl 5 _ rfl naU8 ⟨g2, 1, none⟩ (.int .u8 x.dst) rfl (fun w' hb => by rw [hb.1.cell]; rfl) ?_
          try simp only [Act.put, List.setIfInBounds_toArray, List.set_cons_succ, List.set_cons_zero]
          refine mix_w1 ?_; go_big_quiet_step (fail); refine wpQuiet_nil ?_
          refine mix_loadB hc22 rfl _ 32 rfl aggVal HI0.out (valA va) (by rw [HI1.out, valA_size]) ⟨g2 + 1, x.dst.toNat * 4, none⟩ (by first | rfl | exact hidx) (fun w' hb k u hu => by rw [add_n, hb.2.cell]; exact rowA_get HVA.out k u hu) ?_
          try simp only [Act.put, List.setIfInBounds_toArray, List.set_cons_succ, List.set_cons_zero]
          refine mix_t fun Q' hQ' => ?_
          refine wpList_storeB rfl _ _ 32 rfl HI0.out _ 0 32 (valA none) (valA va) rfl rfl (by rw [HI1.out, valA_size]) (by simp [valA_size]) (by exact valA_one _) hm22.bA ?_
          intro w23a hb23 hk23
          refine hQ' _ _ ?_
          clear hQ' Q'
          have hm23 := hm22.stA hb23 hk23
          have hc23 := RC.farA hc22 hk23 hm22 hg2 hg3
          refine mix_done ?_
          try simp only [Act.put, List.setIfInBounds_toArray, List.set_cons_succ, List.set_cons_zero]
          refine tree_fork1 [false, false, false, false, false, false, false, false, false, false, false, true] [false, false, false, false, false, false, false, false, false, false, false, false] (by kernel_rfl) ?_
          simp only [keep]
          refine mix_t fun Q' hQ' => ?_
          refine wpList_storeB rfl _ _ 32 rfl HI0.out _ 0 32 (valA none) (valA (some (signN x.imm))) rfl rfl (by rw [HI1.out, valA_size]) (by simp [valA_size]) (by exact valA_one _) hm23.bB ?_
          intro w24a hb24 hk24
          refine hQ' _ _ ?_
          clear hQ' Q'
          have hm24 := hm23.stB hb24 hk24
          have hc24 := RC.farB hc23 hk24 hm23 hg2 hg3
          refine mix_done ?_
          try simp only [Act.put, List.setIfInBounds_toArray, List.set_cons_succ, List.set_cons_zero]
          refine tree_last (by kernel_rfl) ?_
          simp only [keep]
          refine mix_done ?_
          exact ⟨(by first | rfl | trivial), _, _, _, _, _, _, _, _, _, _, hm24, hc24, rfl⟩
        · simp only [keep]
          refine mix_k (by exact hc20) fun Q' hQ' => ?_
          go_wp2_with fail
          have hc25 : RC g2 (g2 + 1) x r (w20a.alloc (.cells #[.int .i64 0, .int .u64 0, .int .i64 0, .int .i64 0] 32)) := RC.new hc20
          have hm25 : RN wA (w20a.alloc (.cells #[.int .i64 0, .int .u64 0, .int .i64 0, .int .i64 0] 32)) _ _ := RN.new8 hm20
          refine hQ' _ _ hc25 ?_
          clear hQ' Q'
          generalize w20a.alloc (.cells #[.int .i64 0, .int .u64 0, .int .i64 0, .int .i64 0] 32) = w25a at *
          refine mix_done ?_
          try simp only [Act.put, List.setIfInBounds_toArray, List.set_cons_succ, List.set_cons_zero]
          refine tree_fork1 [false, false, false, false, false, false, false, true, false, false, false, false] [true, true, true, true, false, false, false, false, false, false, true, true] (by kernel_rfl) ?_
          simp only [keep]
          refine mix_k (by exact hc25) fun Q' hQ' => ?_
          go_wp2_with fail
          refine (num_any _ _).mono ?_
          rintro e w26a ⟨rfl, hk26⟩
          go_wp2_with fail
          have hc26 := RC.quiet hc25 hk26
          have hm26 := RN.quiet hm25 hk26
          refine hQ' _ _ hc26 ?_
          clear hQ' Q' hk26
          refine mix_done ?_
          try simp only [Act.put, List.setIfInBounds_toArray, List.set_cons_succ, List.set_cons_zero]
          refine tree_fork1 [true, true, true, true, false, false, false, false, false, false, true, false] [false, false, false, false, false, false, false, false, false, false, false, true] (by kernel_rfl) ?_
          simp only [keep]
          refine mix_w1 ?_; go_big_quiet_step (fail); refine wpQuiet_nil ?_
          refine mix_load1 hc26 rfl 5 _ rfl naU8 ⟨g2, 1, none⟩ (.int .u8 x.dst) rfl (fun w' hb => by rw [hb.1.cell]; rfl) ?_
          try simp only [Act.put, List.setIfInBounds_toArray, List.set_cons_succ, List.set_cons_zero]
          refine mix_w1 ?_; go_big_quiet_step (fail); refine wpQuiet_nil ?_
          refine mix_loadB hc26 rfl _ 32 rfl aggVal HI0.out (valA va) (by rw [HI1.out, valA_size]) ⟨g2 + 1, x.dst.toNat * 4, none⟩ (by first | rfl | exact hidx) (fun w' hb k u hu => by rw [add_n, hb.2.cell]; exact rowA_get HVA.out k u hu) ?_
          try simp only [Act.put, List.setIfInBounds_toArray, List.set_cons_succ, List.set_cons_zero]
          refine mix_t fun Q' hQ' => ?_
          refine wpList_storeB rfl _ _ 32 rfl HI0.out _ 0 32 (valA none) (valA va) rfl rfl (by rw [HI1.out, valA_size]) (by simp [valA_size]) (by exact valA_one _) hm26.bA ?_
          intro w27a hb27 hk27
          refine hQ' _ _ ?_
          clear hQ' Q'
          have hm27 := hm26.stA hb27 hk27
          have hc27 := RC.farA hc26 hk27 hm26 hg2 hg3
          refine mix_done ?_
          try simp only [Act.put, List.setIfInBounds_toArray, List.set_cons_succ, List.set_cons_zero]
          refine tree_fork1 [false, false, false, false, false, false, false, false, false, false, false, true] [false, false, false, false, false, false, false, false, false, false, false, false] (by kernel_rfl) ?_
          simp only [keep]
          refine mix_t fun Q' hQ' => ?_
          refine wpList_storeB rfl _ _ 32 rfl HI0.out _ 0 32 (valA none) (valA (some (signN x.imm))) rfl rfl (by rw [HI1.out, valA_size]) (by simp [valA_size]) (by exact valA_one _) hm27.bB ?_
          intro w28a hb28 hk28
          refine hQ' _ _ ?_
          clear hQ' Q'
          have hm28 := hm27.stB hb28 hk28
          have hc28 := RC.farB hc27 hk28 hm27 hg2 hg3
          refine mix_done ?_
          try simp only [Act.put, List.setIfInBounds_toArray, List.set_cons_succ, List.set_cons_zero]
          refine tree_last (by kernel_rfl) ?_
          simp only [keep]
          refine mix_done ?_
          exact ⟨(by first | rfl | trivial), _, _, _, _, _, _, _, _, _, _, hm28, hc28, rfl⟩
    · simp only [keep]
      refine mix_k (by exact hc0) fun Q' hQ' => ?_
      have hcd29 := RC.drew hc0
      have hmd29 := RN.drew hm0
      generalize w0a.drew = wd29 at *
      go_wp2_with fail
      have hc29 : RC g2 (g2 + 1) x r (wd29.alloc (.cells #[.int .i64 0, .int .u64 0, .int .i64 0, .int .i64 0] 32)) := RC.new hcd29
      have hm29 : RN wA (wd29.alloc (.cells #[.int .i64 0, .int .u64 0, .int .i64 0, .int .i64 0] 32)) _ _ := RN.new8 hmd29
      refine hQ' _ _ hc29 ?_
      clear hQ' Q'
      generalize wd29.alloc (.cells #[.int .i64 0, .int .u64 0, .int .i64 0, .int .i64 0] 32) = w29a at *
      refine mix_done ?_
      try simp only [Act.put, List.setIfInBounds_toArray, List.set_cons_succ, List.set_cons_zero]
      refine tree_fork2 [false, false, false, false, true, true, true, false, false, false, false, false] [true, true, true, true, false, false, false, true, false, true, true, true] [false, false, false, false, false, false, false, false, false, true, false, false] [true, true, true, true, true, true, true, true, false, false, true, true] (by kernel_rfl) ?_ ?_
      · simp only [keep]
        refine mix_w1 ?_; go_big_quiet_step (fail); refine wpQuiet_nil ?_
        refine mix_load1 hc29 rfl 21 _ rfl naI32A ⟨g2, 4, none⟩ (.int .i32 x.imm) rfl (fun w' hb => by rw [hb.1.cell]; rfl) ?_
        try simp only [Act.put, List.setIfInBounds_toArray, List.set_cons_succ, List.set_cons_zero]
        refine mix_k (by exact hc29) fun Q' hQ' => ?_
        go_wp2_with fail
        refine (HSG.out _).mono ?_
        rintro e w30a ⟨rfl, rfl⟩
        go_wp2_with fail
        refine hQ' _ _ hc29 ?_
        clear hQ' Q'
        refine mix_done ?_
        try simp only [Act.put, List.setIfInBounds_toArray, List.set_cons_succ, List.set_cons_zero]
        refine tree_fork2 [false, false, false, false, false, false, false, true, false, false, false, false] [true, true, true, true, false, false, false, false, false, true, true, true] [false, false, false, false, false, false, false, false, false, true, false, false] [true, true, true, true, false, false, false, true, false, false, true, true] (by kernel_rfl) ?_ ?_
        · simp only [keep]
          refine mix_k (by exact hc29) fun Q' hQ' => ?_
          go_wp2_with fail
          refine (num_any _ _).mono ?_
          rintro e w31a ⟨rfl, hk31⟩
          go_wp2_with fail
          have hc31 := RC.quiet hc29 hk31
          have hm31 := RN.quiet hm29 hk31
          refine hQ' _ _ hc31 ?_
          clear hQ' Q' hk31
          refine mix_done ?_
          try simp only [Act.put, List.setIfInBounds_toArray, List.set_cons_succ, List.set_cons_zero]
          refine tree_fork1 [false, false, false, false, false, false, false, false, false, true, false, false] [true, true, true, true, false, false, false, false, false, false, true, true] (by kernel_rfl) ?_
          simp only [keep]
          refine mix_k (by exact hc31) fun Q' hQ' => ?_
          go_wp2_with fail
          have hc32 : RC g2 (g2 + 1) x r (w31a.alloc (.cells #[.int .i64 0, .int .u64 0, .int .i64 0, .int .i64 0] 32)) := RC.new hc31
          have hm32 : RN wA (w31a.alloc (.cells #[.int .i64 0, .int .u64 0, .int .i64 0, .int .i64 0] 32)) _ _ := RN.new9 hm31
          refine hQ' _ _ hc32 ?_
          clear hQ' Q'
          generalize w31a.alloc (.cells #[.int .i64 0, .int .u64 0, .int .i64 0, .int .i64 0] 32) = w32a at *
          refine mix_done ?_
          try simp only [Act.put, List.setIfInBounds_toArray, List.set_cons_succ, List.set_cons_zero]
          refine tree_fork1 [true, true, true, true, false, false, false, false, false, false, true, false] [false, false, false, false, false, false, false, false, false, false, false, true] (by kernel_rfl) ?_
          simp only [keep]
          refine mix_w1 ?_; go_big_quiet_step (fail); refine wpQuiet_nil ?_
          refine mix_load1 hc32 rfl 5 _ rfl naU8 ⟨g2, 1, none⟩ (.int .u8 x.dst) rfl (fun w' hb => by rw [hb.1.cell]; rfl) ?_
          try simp only [Act.put, List.setIfInBounds_toArray, List.set_cons_succ, List.set_cons_zero]
          refine mix_w1 ?_; go_big_quiet_step (fail); refine wpQuiet_nil ?_
          refine mix_loadB hc32 rfl _ 32 rfl aggVal HI0.out (valA va) (by rw [HI1.out, valA_size]) ⟨g2 + 1, x.dst.toNat * 4, none⟩ (by first | rfl | exact hidx) (fun w' hb k u hu => by rw [add_n, hb.2.cell]; exact rowA_get HVA.out k u hu) ?_
          try simp only [Act.put, List.setIfInBounds_toArray, List.set_cons_succ, List.set_cons_zero]
          refine mix_t fun Q' hQ' => ?_
          refine wpList_storeB rfl _ _ 32 rfl HI0.out _ 0 32 (valA none) (valA va) rfl rfl (by rw [HI1.out, valA_size]) (by simp [valA_size]) (by exact valA_one _) hm32.bA ?_
          intro w33a hb33 hk33
          refine hQ' _ _ ?_
          clear hQ' Q'
          have hm33 := hm32.stA hb33 hk33
          have hc33 := RC.farA hc32 hk33 hm32 hg2 hg3
          refine mix_done ?_
          try simp only [Act.put, List.setIfInBounds_toArray, List.set_cons_succ, List.set_cons_zero]
          refine tree_fork1 [false, false, false, false, false, false, false, false, false, false, false, true] [false, false, false, false, false, false, false, false, false, false, false, false] (by kernel_rfl) ?_
          simp only [keep]
          refine mix_t fun Q' hQ' => ?_
          refine wpList_storeB rfl _ _ 32 rfl HI0.out _ 0 32 (valA none) (valA (some (signN x.imm))) rfl rfl (by rw [HI1.out, valA_size]) (by simp [valA_size]) (by exact valA_one _) hm33.bB ?_
          intro w34a hb34 hk34
          refine hQ' _ _ ?_
          clear hQ' Q'
          have hm34 := hm33.stB hb34 hk34
          have hc34 := RC.farB hc33 hk34 hm33 hg2 hg3
          refine mix_done ?_
          try simp only [Act.put, List.setIfInBounds_toArray, List.set_cons_succ, List.set_cons_zero]
          refine tree_last (by kernel_rfl) ?_
          simp only [keep]
          refine mix_done ?_
          exact ⟨(by first | rfl | trivial), _, _, _, _, _, _, _, _, _, _, hm34, hc34, rfl⟩
        · simp only [keep]
          refine mix_k (by exact hc29) fun Q' hQ' => ?_
          go_wp2_with fail
          have hc35 : RC g2 (g2 + 1) x r (w29a.alloc (.cells #[.int .i64 0, .int .u64 0, .int .i64 0, .int .i64 0] 32)) := RC.new hc29
          have hm35 : RN wA (w29a.alloc (.cells #[.int .i64 0, .int .u64 0, .int .i64 0, .int .i64 0] 32)) _ _ := RN.new9 hm29
          refine hQ' _ _ hc35 ?_
          clear hQ' Q'
          generalize w29a.alloc (.cells #[.int .i64 0, .int .u64 0, .int .i64 0, .int .i64 0] 32) = w35a at *
          refine mix_done ?_
          try simp only [Act.put, List.setIfInBounds_toArray, List.set_cons_succ, List.set_cons_zero]
          refine tree_fork1 [false, false, false, false, false, false, false, true, false, false, false, false] [true, true, true, true, false, false, false, false, false, false, true, true] (by kernel_rfl) ?_
          simp only [keep]
          refine mix_k (by exact hc35) fun Q' hQ' => ?_
          go_wp2_with fail
          refine (num_any _ _).mono ?_
          rintro e w36a ⟨rfl, hk36⟩
          go_wp2_with fail
          have hc36 := RC.quiet hc35 hk36
          have hm36 := RN.quiet hm35 hk36
          refine hQ' _ _ hc36 ?_
          clear hQ' Q' hk36
          refine mix_done ?_
          try simp only [Act.put, List.setIfInBounds_toArray, List.set_cons_succ, List.set_cons_zero]
          refine tree_fork1 [true, true, true, true, false, false, false, false, false, false, true, false] [false, false, false, false, false, false, false, false, false, false, false, true] (by kernel_rfl) ?_
          simp only [keep]
          refine mix_w1 ?_; go_big_quiet_step (fail); refine wpQuiet_nil ?_
          refine mix_load1 hc36 rfl 5 _ rfl naU8 ⟨g2, 1, none⟩ (.int .u8 x.dst) rfl (fun w' hb => by rw [hb.1.cell]; rfl) ?_
          try simp only [Act.put, List.setIfInBounds_toArray, List.set_cons_succ, List.set_cons_zero]
          refine mix_w1 ?_; go_big_quiet_step (fail); refine wpQuiet_nil ?_
          refine mix_loadB hc36 rfl _ 32 rfl aggVal HI0.out (valA va) (by rw [HI1.out, valA_size]) ⟨g2 + 1, x.dst.toNat * 4, none⟩ (by first | rfl | exact hidx) (fun w' hb k u hu => by rw [add_n, hb.2.cell]; exact rowA_get HVA.out k u hu) ?_
          try simp only [Act.put, List.setIfInBounds_toArray, List.set_cons_succ, List.set_cons_zero]
          refine mix_t fun Q' hQ' => ?_
          refine wpList_storeB rfl _ _ 32 rfl HI0.out _ 0 32 (valA none) (valA va) rfl rfl (by rw [HI1.out, valA_size]) (by simp [valA_size]) (by exact valA_one _) hm36.bA ?_
          intro w37a hb37 hk37
          refine hQ' _ _ ?_
          clear hQ' Q'
          have hm37 := hm36.stA hb37 hk37
          have hc37 := RC.farA hc36 hk37 hm36 hg2 hg3
          refine mix_done ?_
          try simp only [Act.put, List.setIfInBounds_toArray, List.set_cons_succ, List.set_cons_zero]
          refine tree_fork1 [false, false, false, false, false, false, false, false, false, false, false, true] [false, false, false, false, false, false, false, false, false, false, false, false] (by kernel_rfl) ?_
          simp only [keep]
          refine mix_t fun Q' hQ' => ?_
          refine wpList_storeB rfl _ _ 32 rfl HI0.out _ 0 32 (valA none) (valA (some (signN x.imm))) rfl rfl (by rw [HI1.out, valA_size]) (by simp [valA_size]) (by exact valA_one _) hm37.bB ?_
          intro w38a hb38 hk38
          refine hQ' _ _ ?_
          clear hQ' Q'
          have hm38 := hm37.stB hb38 hk38
          have hc38 := RC.farB hc37 hk38 hm37 hg2 hg3
          refine mix_done ?_
          try simp only [Act.put, List.setIfInBounds_toArray, List.set_cons_succ, List.set_cons_zero]
          refine tree_last (by kernel_rfl) ?_
          simp only [keep]
          refine mix_done ?_
          exact ⟨(by first | rfl | trivial), _, _, _, _, _, _, _, _, _, _, hm38, hc38, rfl⟩
      · simp only [keep]
        refine mix_k (by exact hc29) fun Q' hQ' => ?_
        go_wp2_with fail
        have hc39 : RC g2 (g2 + 1) x r (w29a.alloc (.cells #[.int .i64 0, .int .u64 0, .int .i64 0, .int .i64 0] 32)) := RC.new hc29
        have hm39 : RN wA (w29a.alloc (.cells #[.int .i64 0, .int .u64 0, .int .i64 0, .int .i64 0] 32)) _ _ := RN.new9 hm29
        refine hQ' _ _ hc39 ?_
        clear hQ' Q'
        generalize w29a.alloc (.cells #[.int .i64 0, .int .u64 0, .int .i64 0, .int .i64 0] 32) = w39a at *
        refine mix_done ?_
        try simp only [Act.put, List.setIfInBounds_toArray, List.set_cons_succ, List.set_cons_zero]
        refine tree_fork1 [false, false, false, false, true, true, true, false, false, false, false, false] [true, true, true, true, false, false, false, true, false, false, true, true] (by kernel_rfl) ?_
        simp only [keep]
        refine mix_w1 ?_; go_big_quiet_step (fail); refine wpQuiet_nil ?_
        refine mix_load1 hc39 rfl 21 _ rfl naI32A ⟨g2, 4, none⟩ (.int .i32 x.imm) rfl (fun w' hb => by rw [hb.1.cell]; rfl) ?_
        try simp only [Act.put, List.setIfInBounds_toArray, List.set_cons_succ, List.set_cons_zero]
        refine mix_k (by exact hc39) fun Q' hQ' => ?_
        go_wp2_with fail
        refine (HSG.out _).mono ?_
        rintro e w40a ⟨rfl, rfl⟩
        go_wp2_with fail
        refine hQ' _ _ hc39 ?_
        clear hQ' Q'
        refine mix_done ?_
        try simp only [Act.put, List.setIfInBounds_toArray, List.set_cons_succ, List.set_cons_zero]
        refine tree_fork1 [false, false, false, false, false, false, false, true, false, false, false, false] [true, true, true, true, false, false, false, false, false, false, true, true] (by kernel_rfl) ?_
        simp only [keep]
        refine mix_k (by exact hc39) fun Q' hQ' => ?_
        go_wp2_with fail
        refine (num_any _ _).mono ?_
        rintro e w41a ⟨rfl, hk41⟩
        go_wp2_with fail
        have hc41 := RC.quiet hc39 hk41
        have hm41 := RN.quiet hm39 hk41
        refine hQ' _ _ hc41 ?_
        clear hQ' Q' hk41
        refine mix_done ?_
        try simp only [Act.put, List.setIfInBounds_toArray, List.set_cons_succ, List.set_cons_zero]
        refine tree_fork1 [true, true, true, true, false, false, false, false, false, false, true, false] [false, false, false, false, false, false, false, false, false, false, false, true] (by kernel_rfl) ?_
        simp only [keep]
        refine mix_w1 ?_; go_big_quiet_step (fail); refine wpQuiet_nil ?_
        refine mix_load1 hc41 rfl 5 _ rfl naU8 ⟨g2, 1, none⟩ (.int .u8 x.dst) rfl (fun w' hb => by rw [hb.1.cell]; rfl) ?_
        try simp only [Act.put, List.setIfInBounds_toArray, List.set_cons_succ, List.set_cons_zero]
        refine mix_w1 ?_; go_big_quiet_step (fail); refine wpQuiet_nil ?_
        refine mix_loadB hc41 rfl _ 32 rfl aggVal HI0.out (valA va) (by rw [HI1.out, valA_size]) ⟨g2 + 1, x.dst.toNat * 4, none⟩ (by first | rfl | exact hidx) (fun w' hb k u hu => by rw [add_n, hb.2.cell]; exact rowA_get HVA.out k u hu) ?_
        try simp only [Act.put, List.setIfInBounds_toArray, List.set_cons_succ, List.set_cons_zero]
        refine mix_t fun Q' hQ' => ?_
        refine wpList_storeB rfl _ _ 32 rfl HI0.out _ 0 32 (valA none) (valA va) rfl rfl (by rw [HI1.out, valA_size]) (by simp [valA_size]) (by exact valA_one _) hm41.bA ?_
        intro w42a hb42 hk42
        refine hQ' _ _ ?_
        clear hQ' Q'
        have hm42 := hm41.stA hb42 hk42
        have hc42 := RC.farA hc41 hk42 hm41 hg2 hg3
        refine mix_done ?_
        try simp only [Act.put, List.setIfInBounds_toArray, List.set_cons_succ, List.set_cons_zero]
        refine tree_fork1 [false, false, false, false, false, false, false, false, false, false, false, true] [false, false, false, false, false, false, false, false, false, false, false, false] (by kernel_rfl) ?_
        simp only [keep]
        refine mix_t fun Q' hQ' => ?_
        refine wpList_storeB rfl _ _ 32 rfl HI0.out _ 0 32 (valA none) (valA (some (signN x.imm))) rfl rfl (by rw [HI1.out, valA_size]) (by simp [valA_size]) (by exact valA_one _) hm42.bB ?_
        intro w43a hb43 hk43
        refine hQ' _ _ ?_
        clear hQ' Q'
        have hm43 := hm42.stB hb43 hk43
        have hc43 := RC.farB hc42 hk43 hm42 hg2 hg3
        refine mix_done ?_
        try simp only [Act.put, List.setIfInBounds_toArray, List.set_cons_succ, List.set_cons_zero]
        refine tree_last (by kernel_rfl) ?_
        simp only [keep]
        refine mix_done ?_
        exact ⟨(by first | rfl | trivial), _, _, _, _, _, _, _, _, _, _, hm43, hc43, rfl⟩
    · simp only [keep]
      refine mix_k (by exact hc0) fun Q' hQ' => ?_
      have hcd44 := RC.drew hc0
      have hmd44 := RN.drew hm0
      generalize w0a.drew = wd44 at *
      go_wp2_with fail
      have hc44 : RC g2 (g2 + 1) x r (wd44.alloc (.cells #[.int .i64 0, .int .u64 0, .int .i64 0, .int .i64 0] 32)) := RC.new hcd44
      have hm44 : RN wA (wd44.alloc (.cells #[.int .i64 0, .int .u64 0, .int .i64 0, .int .i64 0] 32)) _ _ := RN.new9 hmd44
      refine hQ' _ _ hc44 ?_
      clear hQ' Q'
      generalize wd44.alloc (.cells #[.int .i64 0, .int .u64 0, .int .i64 0, .int .i64 0] 32) = w44a at *
      refine mix_done ?_
      try simp only [Act.put, List.setIfInBounds_toArray, List.set_cons_succ, List.set_cons_zero]
      refine tree_fork2 [false, false, false, false, true, true, true, false, false, false, false, false] [true, true, true, true, false, false, false, true, true, false, true, true] [false, false, false, false, false, false, false, false, true, false, false, false] [true, true, true, true, true, true, true, true, false, false, true, true] (by kernel_rfl) ?_ ?_
      · simp only [keep]
        refine mix_w1 ?_; go_big_quiet_step (fail); refine wpQuiet_nil ?_
        refine mix_load1 hc44 rfl 21 _ rfl naI32A ⟨g2, 4, none⟩ (.int .i32 x.imm) rfl (fun w' hb => by rw [hb.1.cell]; rfl) ?_
        try simp only [Act.put, List.setIfInBounds_toArray, List.set_cons_succ, List.set_cons_zero]
        refine mix_k (by exact hc44) fun Q' hQ' => ?_
        go_wp2_with fail
        refine (HSG.out _).mono ?_
        rintro e w45a ⟨rfl, rfl⟩
        go_wp2_with fail
        refine hQ' _ _ hc44 ?_
        clear hQ' Q'
        refine mix_done ?_
        try simp only [Act.put, List.setIfInBounds_toArray, List.set_cons_succ, List.set_cons_zero]
        refine tree_fork2 [false, false, false, false, false, false, false, true, false, false, false, false] [true, true, true, true, false, false, false, false, true, false, true, true] [false, false, false, false, false, false, false, false, true, false, false, false] [true, true, true, true, false, false, false, true, false, false, true, true] (by kernel_rfl) ?_ ?_
        · simp only [keep]
          refine mix_k (by exact hc44) fun Q' hQ' => ?_
          go_wp2_with fail
          refine (num_any _ _).mono ?_
          rintro e w46a ⟨rfl, hk46⟩
          go_wp2_with fail
          have hc46 := RC.quiet hc44 hk46
          have hm46 := RN.quiet hm44 hk46
          refine hQ' _ _ hc46 ?_
          clear hQ' Q' hk46
          refine mix_done ?_
          try simp only [Act.put, List.setIfInBounds_toArray, List.set_cons_succ, List.set_cons_zero]
          refine tree_fork1 [false, false, false, false, false, false, false, false, true, false, false, false] [true, true, true, true, false, false, false, false, false, false, true, true] (by kernel_rfl) ?_
          simp only [keep]
          refine mix_k (by exact hc46) fun Q' hQ' => ?_
          go_wp2_with fail
          have hc47 : RC g2 (g2 + 1) x r (w46a.alloc (.cells #[.int .i64 0, .int .u64 0, .int .i64 0, .int .i64 0] 32)) := RC.new hc46
          have hm47 : RN wA (w46a.alloc (.cells #[.int .i64 0, .int .u64 0, .int .i64 0, .int .i64 0] 32)) _ _ := RN.new8 hm46
          refine hQ' _ _ hc47 ?_
          clear hQ' Q'
          generalize w46a.alloc (.cells #[.int .i64 0, .int .u64 0, .int .i64 0, .int .i64 0] 32) = w47a at *
          refine mix_done ?_
          try simp only [Act.put, List.setIfInBounds_toArray, List.set_cons_succ, List.set_cons_zero]
          refine tree_fork1 [true, true, true, true, false, false, false, false, false, false, true, false] [false, false, false, false, false, false, false, false, false, false, false, true] (by kernel_rfl) ?_
          simp only [keep]
          refine mix_w1 ?_; go_big_quiet_step (fail); refine wpQuiet_nil ?_
          refine mix_load1 hc47 rfl 5 _ rfl naU8 ⟨g2, 1, none⟩ (.int .u8 x.dst) rfl (fun w' hb => by rw [hb.1.cell]; rfl) ?_
          try simp only [Act.put, List.setIfInBounds_toArray, List.set_cons_succ, List.set_cons_zero]
          refine mix_w1 ?_; go_big_quiet_step (fail); refine wpQuiet_nil ?_
          refine mix_loadB hc47 rfl _ 32 rfl aggVal HI0.out (valA va) (by rw [HI1.out, valA_size]) ⟨g2 + 1, x.dst.toNat * 4, none⟩ (by first | rfl | exact hidx) (fun w' hb k u hu => by rw [add_n, hb.2.cell]; exact rowA_get HVA.out k u hu) ?_
          try simp only [Act.put, List.setIfInBounds_toArray, List.set_cons_succ, List.set_cons_zero]
          refine mix_t fun Q' hQ' => ?_
          refine wpList_storeB rfl _ _ 32 rfl HI0.out _ 0 32 (valA none) (valA va) rfl rfl (by rw [HI1.out, valA_size]) (by simp [valA_size]) (by exact valA_one _) hm47.bA ?_
          intro w48a hb48 hk48
          refine hQ' _ _ ?_
          clear hQ' Q'
          have hm48 := hm47.stA hb48 hk48
          have hc48 := RC.farA hc47 hk48 hm47 hg2 hg3
          refine mix_done ?_
          try simp only [Act.put, List.setIfInBounds_toArray, List.set_cons_succ, List.set_cons_zero]
          refine tree_fork1 [false, false, false, false, false, false, false, false, false, false, false, true] [false, false, false, false, false, false, false, false, false, false, false, false] (by kernel_rfl) ?_
          simp only [keep]
          refine mix_t fun Q' hQ' => ?_
          refine wpList_storeB rfl _ _ 32 rfl HI0.out _ 0 32 (valA none) (valA (some (signN x.imm))) rfl rfl (by rw [HI1.out, valA_size]) (by simp [valA_size]) (by exact valA_one _) hm48.bB ?_
          intro w49a hb49 hk49
          refine hQ' _ _ ?_
          clear hQ' Q'
          have hm49 := hm48.stB hb49 hk49
          have hc49 := RC.farB hc48 hk49 hm48 hg2 hg3
          refine mix_done ?_
          try simp only [Act.put, List.setIfInBounds_toArray, List.set_cons_succ, List.set_cons_zero]
          refine tree_last (by kernel_rfl) ?_
          simp only [keep]
          refine mix_done ?_
          exact ⟨(by first | rfl | trivial), _, _, _, _, _, _, _, _, _, _, hm49, hc49, rfl⟩
        · simp only [keep]
          refine mix_k (by exact hc44) fun Q' hQ' => ?_
          go_wp2_with fail
          have hc50 : RC g2 (g2 + 1) x r (w44a.alloc (.cells #[.int .i64 0, .int .u64 0, .int .i64 0, .int .i64 0] 32)) := RC.new hc44
          have hm50 : RN wA (w44a.alloc (.cells #[.int .i64 0, .int .u64 0, .int .i64 0, .int .i64 0] 32)) _ _ := RN.new8 hm44
          refine hQ' _ _ hc50 ?_
          clear hQ' Q'
          generalize w44a.alloc (.cells #[.int .i64 0, .int .u64 0, .int .i64 0, .int .i64 0] 32) = w50a at *
          refine mix_done ?_
          try simp only [Act.put, List.setIfInBounds_toArray, List.set_cons_succ, List.set_cons_zero]
          refine tree_fork1 [false, false, false, false, false, false, false, true, false, false, false, false] [true, true, true, true, false, false, false, false, false, false, true, true] (by kernel_rfl) ?_
          simp only [keep]
          refine mix_k (by exact hc50) fun Q' hQ' => ?_
          go_wp2_with fail
          refine (num_any _ _).mono ?_
          rintro e w51a ⟨rfl, hk51⟩
          go_wp2_with fail
          have hc51 := RC.quiet hc50 hk51
          have hm51 := RN.quiet hm50 hk51
          refine hQ' _ _ hc51 ?_
          clear hQ' Q' hk51
          refine mix_done ?_
          try simp only [Act.put, List.setIfInBounds_toArray, List.set_cons_succ, List.set_cons_zero]
          refine tree_fork1 [true, true, true, true, false, false, false, false, false, false, true, false] [false, false, false, false, false, false, false, false, false, false, false, true] (by kernel_rfl) ?_
          simp only [keep]
          refine mix_w1 ?_; go_big_quiet_step (fail); refine wpQuiet_nil ?_
          refine mix_load1 hc51 rfl 5 _ rfl naU8 ⟨g2, 1, none⟩ (.int .u8 x.dst) rfl (fun w' hb => by rw [hb.1.cell]; rfl) ?_
          try simp only [Act.put, List.setIfInBounds_toArray, List.set_cons_succ, List.set_cons_zero]
          refine mix_w1 ?_; go_big_quiet_step (fail); refine wpQuiet_nil ?_
          refine mix_loadB hc51 rfl _ 32 rfl aggVal HI0.out (valA va) (by rw [HI1.out, valA_size]) ⟨g2 + 1, x.dst.toNat * 4, none⟩ (by first | rfl | exact hidx) (fun w' hb k u hu => by rw [add_n, hb.2.cell]; exact rowA_get HVA.out k u hu) ?_
          try simp only [Act.put, List.setIfInBounds_toArray, List.set_cons_succ, List.set_cons_zero]
          refine mix_t fun Q' hQ' => ?_
          refine wpList_storeB rfl _ _ 32 rfl HI0.out _ 0 32 (valA none) (valA va) rfl rfl (by rw [HI1.out, valA_size]) (by simp [valA_size]) (by exact valA_one _) hm51.bA ?_
          intro w52a hb52 hk52
          refine hQ' _ _ ?_
          clear hQ' Q'
          have hm52 := hm51.stA hb52 hk52
          have hc52 := RC.farA hc51 hk52 hm51 hg2 hg3
          refine mix_done ?_
          try simp only [Act.put, List.setIfInBounds_toArray, List.set_cons_succ, List.set_cons_zero]
          refine tree_fork1 [false, false, false, false, false, false, false, false, false, false, false, true] [false, false, false, false, false, false, false, false, false, false, false, false] (by kernel_rfl) ?_
          simp only [keep]
          refine mix_t fun Q' hQ' => ?_
          refine wpList_storeB rfl _ _ 32 rfl HI0.out _ 0 32 (valA none) (valA (some (signN x.imm))) rfl rfl (by rw [HI1.out, valA_size]) (by simp [valA_size]) (by exact valA_one _) hm52.bB ?_
          intro w53a hb53 hk53
          refine hQ' _ _ ?_
          clear hQ' Q'
          have hm53 := hm52.stB hb53 hk53
          have hc53 := RC.farB hc52 hk53 hm52 hg2 hg3
          refine mix_done ?_
          try simp only [Act.put, List.setIfInBounds_toArray, List.set_cons_succ, List.set_cons_zero]
          refine tree_last (by kernel_rfl) ?_
          simp only [keep]
          refine mix_done ?_
          exact ⟨(by first | rfl | trivial), _, _, _, _, _, _, _, _, _, _, hm53, hc53, rfl⟩
      · simp only [keep]
        refine mix_k (by exact hc44) fun Q' hQ' => ?_
        go_wp2_with fail
        have hc54 : RC g2 (g2 + 1) x r (w44a.alloc (.cells #[.int .i64 0, .int .u64 0, .int .i64 0, .int .i64 0] 32)) := RC.new hc44
        have hm54 : RN wA (w44a.alloc (.cells #[.int .i64 0, .int .u64 0, .int .i64 0, .int .i64 0] 32)) _ _ := RN.new8 hm44
        refine hQ' _ _ hc54 ?_
        clear hQ' Q'
        generalize w44a.alloc (.cells #[.int .i64 0, .int .u64 0, .int .i64 0, .int .i64 0] 32) = w54a at *
        refine mix_done ?_
        try simp only [Act.put, List.setIfInBounds_toArray, List.set_cons_succ, List.set_cons_zero]
        refine tree_fork1 [false, false, false, false, true, true, true, false, false, false, false, false] [true, true, true, true, false, false, false, true, false, false, true, true] (by kernel_rfl) ?_
        simp only [keep]
        refine mix_w1 ?_; go_big_quiet_step (fail); refine wpQuiet_nil ?_
        refine mix_load1 hc54 rfl 21 _ rfl naI32A ⟨g2, 4, none⟩ (.int .i32 x.imm) rfl (fun w' hb => by rw [hb.1.cell]; rfl) ?_
        try simp only [Act.put, List.setIfInBounds_toArray, List.set_cons_succ, List.set_cons_zero]
        refine mix_k (by exact hc54) fun Q' hQ' => ?_
        go_wp2_with fail
        refine (HSG.out _).mono ?_
        rintro e w55a ⟨rfl, rfl⟩
        go_wp2_with fail
        refine hQ' _ _ hc54 ?_
        clear hQ' Q'
        refine mix_done ?_
        try simp only [Act.put, List.setIfInBounds_toArray, List.set_cons_succ, List.set_cons_zero]
        refine tree_fork1 [false, false, false, false, false, false, false, true, false, false, false, false] [true, true, true, true, false, false, false, false, false, false, true, true] (by kernel_rfl) ?_
        simp only [keep]
        refine mix_k (by exact hc54) fun Q' hQ' => ?_
        go_wp2_with fail
        refine (num_any _ _).mono ?_
        rintro e w56a ⟨rfl, hk56⟩
        go_wp2_with fail
        have hc56 := RC.quiet hc54 hk56
        have hm56 := RN.quiet hm54 hk56
        refine hQ' _ _ hc56 ?_
        clear hQ' Q' hk56
        refine mix_done ?_
        try simp only [Act.put, List.setIfInBounds_toArray, List.set_cons_succ, List.set_cons_zero]
        refine tree_fork1 [true, true, true, true, false, false, false, false, false, false, true, false] [false, false, false, false, false, false, false, false, false, false, false, true] (by kernel_rfl) ?_
        simp only [keep]
        refine mix_w1 ?_; go_big_quiet_step (fail); refine wpQuiet_nil ?_
        refine mix_load1 hc56 rfl 5 _ rfl naU8 ⟨g2, 1, none⟩ (.int .u8 x.dst) rfl (fun w' hb => by rw [hb.1.cell]; rfl) ?_
        try simp only [Act.put, List.setIfInBounds_toArray, List.set_cons_succ, List.set_cons_zero]
        refine mix_w1 ?_; go_big_quiet_step (fail); refine wpQuiet_nil ?_
        refine mix_loadB hc56 rfl _ 32 rfl aggVal HI0.out (valA va) (by rw [HI1.out, valA_size]) ⟨g2 + 1, x.dst.toNat * 4, none⟩ (by first | rfl | exact hidx) (fun w' hb k u hu => by rw [add_n, hb.2.cell]; exact rowA_get HVA.out k u hu) ?_
        try simp only [Act.put, List.setIfInBounds_toArray, List.set_cons_succ, List.set_cons_zero]
        refine mix_t fun Q' hQ' => ?_
        refine wpList_storeB rfl _ _ 32 rfl HI0.out _ 0 32 (valA none) (valA va) rfl rfl (by rw [HI1.out, valA_size]) (by simp [valA_size]) (by exact valA_one _) hm56.bA ?_
        intro w57a hb57 hk57
        refine hQ' _ _ ?_
        clear hQ' Q'
        have hm57 := hm56.stA hb57 hk57
        have hc57 := RC.farA hc56 hk57 hm56 hg2 hg3
        refine mix_done ?_
        try simp only [Act.put, List.setIfInBounds_toArray, List.set_cons_succ, List.set_cons_zero]
        refine tree_fork1 [false, false, false, false, false, false, false, false, false, false, false, true] [false, false, false, false, false, false, false, false, false, false, false, false] (by kernel_rfl) ?_
        simp only [keep]
        refine mix_t fun Q' hQ' => ?_
        refine wpList_storeB rfl _ _ 32 rfl HI0.out _ 0 32 (valA none) (valA (some (signN x.imm))) rfl rfl (by rw [HI1.out, valA_size]) (by simp [valA_size]) (by exact valA_one _) hm57.bB ?_
        intro w58a hb58 hk58
        refine hQ' _ _ ?_
        clear hQ' Q'
        have hm58 := hm57.stB hb58 hk58
        have hc58 := RC.farB hc57 hk58 hm57 hg2 hg3
        refine mix_done ?_
        try simp only [Act.put, List.setIfInBounds_toArray, List.set_cons_succ, List.set_cons_zero]
        refine tree_last (by kernel_rfl) ?_
        simp only [keep]
        refine mix_done ?_
        exact ⟨(by first | rfl | trivial), _, _, _, _, _, _, _, _, _, _, hm58, hc58, rfl⟩
  · rintro e a' w' ⟨rfl, gA, gB, u18, u19, u20, u21, u22, u23, u24, u25, hm, hc, rfl⟩
    have HM := Lib.hid hm
    have HC := Lib.hid hc
    clear hm hc hcE
    have hsg := signN_lt x.imm
    have q0 : w'.cell? ⟨g2, 0, none⟩ = some (.int .u8 x.op) := by rw [HC.out.1.cell]; rfl
    have q1 : w'.cell? ⟨g2, 1, none⟩ = some (.int .u8 x.dst) := by rw [HC.out.1.cell]; rfl
    have q2 : w'.cell? ⟨g2, 2, none⟩ = some (.int .u8 x.src) := by rw [HC.out.1.cell]; rfl
    have q4 : w'.cell? ⟨g2, 4, none⟩ = some (.int .i32 x.imm) := by rw [HC.out.1.cell]; rfl
    by_cases k13 : k = 13
    · subst k13
      cases xb
      · simp only [Bool.false_eq_true, if_false, if_true] at h8
        cases va with
        | none =>
          have HR : Hid (resR x r = none) := Lib.hid (by rw [HRR.out, HOA.out, HOB.out]; rfl)
          have kgA : w'.cell? ⟨gA, 0, none⟩ = some (.int .i64 0) := (by rw [HM.out.bA.cell]; rfl)
          have kgB : w'.cell? ⟨gB, 0, none⟩ = some (.int .i64 1) := (by rw [HM.out.bB.cell]; rfl)
          have ngB : w'.cell? ⟨gB, 1, none⟩ = some (.int .u64 (((signN x.imm) : Nat) : Int)) := (by rw [HM.out.bB.cell]; rfl)
          go_wp2_with fail
          go_ret2
          exact ⟨by rw [HR.out]; rfl, (HKE.out.trans HM.out.kp (fun _ _ e => e))⟩
        | some n =>
          have hna := HNM.out _ _ HVA.out
          have HR : Hid (resR x r = some (resV x n (signN x.imm))) := Lib.hid (by rw [HRR.out, HOA.out, HOB.out]; rfl)
          have kgA : w'.cell? ⟨gA, 0, none⟩ = some (.int .i64 1) := (by rw [HM.out.bA.cell]; rfl)
          have ngA : w'.cell? ⟨gA, 1, none⟩ = some (.int .u64 ((n : Nat) : Int)) := (by rw [HM.out.bA.cell]; rfl)
          have kgB : w'.cell? ⟨gB, 0, none⟩ = some (.int .i64 1) := (by rw [HM.out.bB.cell]; rfl)
          have ngB : w'.cell? ⟨gB, 1, none⟩ = some (.int .u64 (((signN x.imm) : Nat) : Int)) := (by rw [HM.out.bB.cell]; rfl)
          rcases HEN.out rfl with him | him | him
          · rw [him] at q4
            cases wd
            · go_wp2_with fail
              refine (aswap16_any false n _ hna).mono ?_
              rintro e w3 ⟨rfl, rfl⟩
              go_wp2_with fail
              go_ret2
              exact ⟨by rw [HR.out]; unfold resV; rw [HCK.out, HWD.out, HXB.out, him]; rfl, (HKE.out.trans HM.out.kp (fun _ _ e => e))⟩
            · go_wp2_with fail
              refine (aturn16_any n _ hna).mono ?_
              rintro e w3 ⟨rfl, rfl⟩
              go_wp2_with fail
              go_ret2
              exact ⟨by rw [HR.out]; unfold resV; rw [HCK.out, HWD.out, HXB.out, him]; rfl, (HKE.out.trans HM.out.kp (fun _ _ e => e))⟩
          · rw [him] at q4
            cases wd
            · go_wp2_with fail
              refine (aswap32_any false n _ hna).mono ?_
              rintro e w3 ⟨rfl, rfl⟩
              go_wp2_with fail
              go_ret2
              exact ⟨by rw [HR.out]; unfold resV; rw [HCK.out, HWD.out, HXB.out, him]; rfl, (HKE.out.trans HM.out.kp (fun _ _ e => e))⟩
            · go_wp2_with fail
              refine (aturn32_any n _ hna).mono ?_
              rintro e w3 ⟨rfl, rfl⟩
              go_wp2_with fail
              go_ret2
              exact ⟨by rw [HR.out]; unfold resV; rw [HCK.out, HWD.out, HXB.out, him]; rfl, (HKE.out.trans HM.out.kp (fun _ _ e => e))⟩
          · rw [him] at q4
            cases wd
            · go_wp2_with fail
              refine (aswap64_any false n _ hna).mono ?_
              rintro e w3 ⟨rfl, rfl⟩
              go_wp2_with fail
              go_ret2
              exact ⟨by rw [HR.out]; unfold resV; rw [HCK.out, HWD.out, HXB.out, him]; rfl, (HKE.out.trans HM.out.kp (fun _ _ e => e))⟩
            · go_wp2_with fail
              refine (aturn64_any n _ hna).mono ?_
              rintro e w3 ⟨rfl, rfl⟩
              go_wp2_with fail
              go_ret2
              exact ⟨by rw [HR.out]; unfold resV; rw [HCK.out, HWD.out, HXB.out, him]; rfl, (HKE.out.trans HM.out.kp (fun _ _ e => e))⟩
      · simp only [Bool.false_eq_true, if_false, if_true] at h8
        cases va with
        | none =>
          have HR : Hid (resR x r = none) := Lib.hid (by rw [HRR.out, HOA.out, HOB.out]; rfl)
          have kgA : w'.cell? ⟨gA, 0, none⟩ = some (.int .i64 0) := (by rw [HM.out.bA.cell]; rfl)
          have kgB : w'.cell? ⟨gB, 0, none⟩ = some (.int .i64 1) := (by rw [HM.out.bB.cell]; rfl)
          have ngB : w'.cell? ⟨gB, 1, none⟩ = some (.int .u64 (((signN x.imm) : Nat) : Int)) := (by rw [HM.out.bB.cell]; rfl)
          go_wp2_with fail
          go_ret2
          exact ⟨by rw [HR.out]; rfl, (HKE.out.trans HM.out.kp (fun _ _ e => e))⟩
        | some n =>
          have hna := HNM.out _ _ HVA.out
          have HR : Hid (resR x r = some (resV x n (signN x.imm))) := Lib.hid (by rw [HRR.out, HOA.out, HOB.out]; rfl)
          have kgA : w'.cell? ⟨gA, 0, none⟩ = some (.int .i64 1) := (by rw [HM.out.bA.cell]; rfl)
          have ngA : w'.cell? ⟨gA, 1, none⟩ = some (.int .u64 ((n : Nat) : Int)) := (by rw [HM.out.bA.cell]; rfl)
          have kgB : w'.cell? ⟨gB, 0, none⟩ = some (.int .i64 1) := (by rw [HM.out.bB.cell]; rfl)
          have ngB : w'.cell? ⟨gB, 1, none⟩ = some (.int .u64 (((signN x.imm) : Nat) : Int)) := (by rw [HM.out.bB.cell]; rfl)
          rcases HEN.out rfl with him | him | him
          · rw [him] at q4
            cases wd
            · go_wp2_with fail
              refine (aswap16_any true n _ hna).mono ?_
              rintro e w3 ⟨rfl, rfl⟩
              go_wp2_with fail
              go_ret2
              exact ⟨by rw [HR.out]; unfold resV; rw [HCK.out, HWD.out, HXB.out, him]; rfl, (HKE.out.trans HM.out.kp (fun _ _ e => e))⟩
            · go_wp2_with fail
              refine (aturn16_any n _ hna).mono ?_
              rintro e w3 ⟨rfl, rfl⟩
              go_wp2_with fail
              go_ret2
              exact ⟨by rw [HR.out]; unfold resV; rw [HCK.out, HWD.out, HXB.out, him]; rfl, (HKE.out.trans HM.out.kp (fun _ _ e => e))⟩
          · rw [him] at q4
            cases wd
            · go_wp2_with fail
              refine (aswap32_any true n _ hna).mono ?_
              rintro e w3 ⟨rfl, rfl⟩
              go_wp2_with fail
              go_ret2
              exact ⟨by rw [HR.out]; unfold resV; rw [HCK.out, HWD.out, HXB.out, him]; rfl, (HKE.out.trans HM.out.kp (fun _ _ e => e))⟩
            · go_wp2_with fail
              refine (aturn32_any n _ hna).mono ?_
              rintro e w3 ⟨rfl, rfl⟩
              go_wp2_with fail
              go_ret2
              exact ⟨by rw [HR.out]; unfold resV; rw [HCK.out, HWD.out, HXB.out, him]; rfl, (HKE.out.trans HM.out.kp (fun _ _ e => e))⟩
          · rw [him] at q4
            cases wd
            · go_wp2_with fail
              refine (aswap64_any true n _ hna).mono ?_
              rintro e w3 ⟨rfl, rfl⟩
              go_wp2_with fail
              go_ret2
              exact ⟨by rw [HR.out]; unfold resV; rw [HCK.out, HWD.out, HXB.out, him]; rfl, (HKE.out.trans HM.out.kp (fun _ _ e => e))⟩
            · go_wp2_with fail
              refine (aturn64_any n _ hna).mono ?_
              rintro e w3 ⟨rfl, rfl⟩
              go_wp2_with fail
              go_ret2
              exact ⟨by rw [HR.out]; unfold resV; rw [HCK.out, HWD.out, HXB.out, him]; rfl, (HKE.out.trans HM.out.kp (fun _ _ e => e))⟩
    · have hkne : (k != 13) = true := by simpa using k13
      cases xb
      · simp only [Bool.false_eq_true, if_false, if_true] at h8
        by_cases k11 : k = 11
        · subst k11
          have HO2 := Lib.hid (And.intro (show opA x r = (some 0) by rw [HOA.out]; rfl) (show opB x r = (some (signN x.imm)) by rw [HOB.out]; rfl))
          have hna : 0 < 18446744073709551616 := by decide
          have hnb := hsg
          have HR : Hid (resR x r = some (doN (11 : Int).toNat wd 0 (signN x.imm))) := Lib.hid (by rw [HRR.out, HO2.out.1, HO2.out.2]; show some (resV x _ _) = _; unfold resV codeN; rw [HCK.out, HWD.out, if_neg k13])
          go_wp2_with fail
          refine (num_any 0 _).mono ?_
          rintro e w5 ⟨rfl, hk5⟩
          have HM5 := Lib.hid (HM.out.quiet hk5)
          clear hk5
          go_wp2_with (refine wpList_storeB rfl _ _ 32 rfl HI0.out gA 0 32 (valA va) (valA (some 0)) rfl rfl (by rw [HI1.out, valA_size]) (by simp [valA_size]) (by exact valA_one _) HM5.out.bA ?_; intro w6 hb6 hk6; have HM6 := Lib.hid (HM5.out.stA hb6 hk6); clear hb6 hk6; have kgA : w6.cell? ⟨gA, 0, none⟩ = some (.int .i64 1) := (by rw [HM6.out.bA.cell]; rfl); have ngA : w6.cell? ⟨gA, 1, none⟩ = some (.int .u64 ((0 : Nat) : Int)) := (by rw [HM6.out.bA.cell]; rfl); have kgB : w6.cell? ⟨gB, 0, none⟩ = some (.int .i64 1) := (by rw [HM6.out.bB.cell]; rfl); have ngB : w6.cell? ⟨gB, 1, none⟩ = some (.int .u64 (((signN x.imm) : Nat) : Int)) := (by rw [HM6.out.bB.cell]; rfl))
          refine (HDO.out 0 (signN x.imm) _ k13 hna hnb).mono ?_
          rintro e w3 ⟨rfl, hk3⟩
          go_wp2_with fail
          go_ret2
          exact ⟨by rw [HR.out]; rfl, ((HKE.out.trans HM6.out.kp (fun _ _ e => e)).trans hk3 (fun _ _ e => e))⟩
        · have hk11 : (k == 11) = false := by simpa using k11
          cases va with
          | none =>
            have HO2 := Lib.hid (And.intro (show opA x r = none by rw [HOA.out]; simp [k11]) (show opB x r = (some (signN x.imm)) by rw [HOB.out]; simp [k13]))
            have HR : Hid (resR x r = none) := Lib.hid (by rw [HRR.out, HO2.out.1, HO2.out.2])
            have kgA : w'.cell? ⟨gA, 0, none⟩ = some (.int .i64 0) := (by rw [HM.out.bA.cell]; rfl)
            have kgB : w'.cell? ⟨gB, 0, none⟩ = some (.int .i64 1) := (by rw [HM.out.bB.cell]; rfl)
            have ngB : w'.cell? ⟨gB, 1, none⟩ = some (.int .u64 (((signN x.imm) : Nat) : Int)) := (by rw [HM.out.bB.cell]; rfl)
            go_wp2_with fail
            go_ret2
            exact ⟨by rw [HR.out]; rfl, (HKE.out.trans HM.out.kp (fun _ _ e => e))⟩
          | some n =>
            have HO2 := Lib.hid (And.intro (show opA x r = (some n) by rw [HOA.out]; simp [k11]) (show opB x r = (some (signN x.imm)) by rw [HOB.out]; simp [k13]))
            have hna := HNM.out _ _ HVA.out
            have hnb := hsg
            have HR : Hid (resR x r = some (doN (k : Int).toNat wd n (signN x.imm))) := Lib.hid (by rw [HRR.out, HO2.out.1, HO2.out.2]; show some (resV x _ _) = _; unfold resV codeN; rw [HCK.out, HWD.out, if_neg k13])
            have kgA : w'.cell? ⟨gA, 0, none⟩ = some (.int .i64 1) := (by rw [HM.out.bA.cell]; rfl)
            have ngA : w'.cell? ⟨gA, 1, none⟩ = some (.int .u64 ((n : Nat) : Int)) := (by rw [HM.out.bA.cell]; rfl)
            have kgB : w'.cell? ⟨gB, 0, none⟩ = some (.int .i64 1) := (by rw [HM.out.bB.cell]; rfl)
            have ngB : w'.cell? ⟨gB, 1, none⟩ = some (.int .u64 (((signN x.imm) : Nat) : Int)) := (by rw [HM.out.bB.cell]; rfl)
            go_wp2_with fail
            refine (HDO.out n (signN x.imm) _ k13 hna hnb).mono ?_
            rintro e w3 ⟨rfl, hk3⟩
            go_wp2_with fail
            go_ret2
            exact ⟨by rw [HR.out]; rfl, ((HKE.out.trans HM.out.kp (fun _ _ e => e)).trans hk3 (fun _ _ e => e))⟩
      · simp only [Bool.false_eq_true, if_false, if_true] at h8
        by_cases k11 : k = 11
        · subst k11
          cases vs with
          | none =>
            have HO2 := Lib.hid (And.intro (show opA x r = (some 0) by rw [HOA.out]; rfl) (show opB x r = none by rw [HOB.out]; rfl))
            have HR : Hid (resR x r = none) := Lib.hid (by rw [HRR.out, HO2.out.1, HO2.out.2])
            go_wp2_with (first | (refine wpList_loadB rfl _ 32 rfl aggVal HI0.out (valA none) (by rw [HI1.out, valA_size]) ⟨g2 + 1, x.src.toNat * 4, none⟩ (by first | rfl | simp) (fun k u hu => by rw [add_n, HC.out.2.cell]; exact rowA_get HVS.out k u hu) ?_) | (refine wpList_storeB rfl _ _ 32 rfl HI0.out gB 0 32 (valA (some (signN x.imm))) (valA none) rfl rfl (by rw [HI1.out, valA_size]) (by simp [valA_size]) (by exact valA_one _) HM.out.bB ?_; intro w4 hb4 hk4; have HM4 := Lib.hid (HM.out.stB hb4 hk4); clear hb4 hk4 q0 q1 q2 q4; skip))
            refine (num_any 0 _).mono ?_
            rintro e w5 ⟨rfl, hk5⟩
            have HM5 := Lib.hid (HM4.out.quiet hk5)
            clear hk5
            go_wp2_with (refine wpList_storeB rfl _ _ 32 rfl HI0.out gA 0 32 (valA va) (valA (some 0)) rfl rfl (by rw [HI1.out, valA_size]) (by simp [valA_size]) (by exact valA_one _) HM5.out.bA ?_; intro w6 hb6 hk6; have HM6 := Lib.hid (HM5.out.stA hb6 hk6); clear hb6 hk6; have kgA : w6.cell? ⟨gA, 0, none⟩ = some (.int .i64 1) := (by rw [HM6.out.bA.cell]; rfl); have ngA : w6.cell? ⟨gA, 1, none⟩ = some (.int .u64 ((0 : Nat) : Int)) := (by rw [HM6.out.bA.cell]; rfl); have kgB : w6.cell? ⟨gB, 0, none⟩ = some (.int .i64 0) := (by rw [HM6.out.bB.cell]; rfl))
            go_ret2
            exact ⟨by rw [HR.out]; rfl, (HKE.out.trans HM6.out.kp (fun _ _ e => e))⟩
          | some m =>
            have HO2 := Lib.hid (And.intro (show opA x r = (some 0) by rw [HOA.out]; rfl) (show opB x r = (some m) by rw [HOB.out]; rfl))
            have hna : 0 < 18446744073709551616 := by decide
            have hnb := HNM.out _ _ HVS.out
            have HR : Hid (resR x r = some (doN (11 : Int).toNat wd 0 m)) := Lib.hid (by rw [HRR.out, HO2.out.1, HO2.out.2]; show some (resV x _ _) = _; unfold resV codeN; rw [HCK.out, HWD.out, if_neg k13])
            go_wp2_with (first | (refine wpList_loadB rfl _ 32 rfl aggVal HI0.out (valA (some m)) (by rw [HI1.out, valA_size]) ⟨g2 + 1, x.src.toNat * 4, none⟩ (by first | rfl | simp) (fun k u hu => by rw [add_n, HC.out.2.cell]; exact rowA_get HVS.out k u hu) ?_) | (refine wpList_storeB rfl _ _ 32 rfl HI0.out gB 0 32 (valA (some (signN x.imm))) (valA (some m)) rfl rfl (by rw [HI1.out, valA_size]) (by simp [valA_size]) (by exact valA_one _) HM.out.bB ?_; intro w4 hb4 hk4; have HM4 := Lib.hid (HM.out.stB hb4 hk4); clear hb4 hk4 q0 q1 q2 q4; skip))
            refine (num_any 0 _).mono ?_
            rintro e w5 ⟨rfl, hk5⟩
            have HM5 := Lib.hid (HM4.out.quiet hk5)
            clear hk5
            go_wp2_with (refine wpList_storeB rfl _ _ 32 rfl HI0.out gA 0 32 (valA va) (valA (some 0)) rfl rfl (by rw [HI1.out, valA_size]) (by simp [valA_size]) (by exact valA_one _) HM5.out.bA ?_; intro w6 hb6 hk6; have HM6 := Lib.hid (HM5.out.stA hb6 hk6); clear hb6 hk6; have kgA : w6.cell? ⟨gA, 0, none⟩ = some (.int .i64 1) := (by rw [HM6.out.bA.cell]; rfl); have ngA : w6.cell? ⟨gA, 1, none⟩ = some (.int .u64 ((0 : Nat) : Int)) := (by rw [HM6.out.bA.cell]; rfl); have kgB : w6.cell? ⟨gB, 0, none⟩ = some (.int .i64 1) := (by rw [HM6.out.bB.cell]; rfl); have ngB : w6.cell? ⟨gB, 1, none⟩ = some (.int .u64 ((m : Nat) : Int)) := (by rw [HM6.out.bB.cell]; rfl))
            refine (HDO.out 0 m _ k13 hna hnb).mono ?_
            rintro e w3 ⟨rfl, hk3⟩
            go_wp2_with fail
            go_ret2
            exact ⟨by rw [HR.out]; rfl, ((HKE.out.trans HM6.out.kp (fun _ _ e => e)).trans hk3 (fun _ _ e => e))⟩
        · have hk11 : (k == 11) = false := by simpa using k11
          cases va with
          | none =>
            cases vs with
            | none =>
              have HO2 := Lib.hid (And.intro (show opA x r = none by rw [HOA.out]; simp [k11]) (show opB x r = none by rw [HOB.out]; simp [k13]))
              have HR : Hid (resR x r = none) := Lib.hid (by rw [HRR.out, HO2.out.1, HO2.out.2])
              go_wp2_with (first | (refine wpList_loadB rfl _ 32 rfl aggVal HI0.out (valA none) (by rw [HI1.out, valA_size]) ⟨g2 + 1, x.src.toNat * 4, none⟩ (by first | rfl | simp) (fun k u hu => by rw [add_n, HC.out.2.cell]; exact rowA_get HVS.out k u hu) ?_) | (refine wpList_storeB rfl _ _ 32 rfl HI0.out gB 0 32 (valA (some (signN x.imm))) (valA none) rfl rfl (by rw [HI1.out, valA_size]) (by simp [valA_size]) (by exact valA_one _) HM.out.bB ?_; intro w4 hb4 hk4; have HM4 := Lib.hid (HM.out.stB hb4 hk4); clear hb4 hk4 q0 q1 q2 q4; have kgA : w4.cell? ⟨gA, 0, none⟩ = some (.int .i64 0) := (by rw [HM4.out.bA.cell]; rfl); have kgB : w4.cell? ⟨gB, 0, none⟩ = some (.int .i64 0) := (by rw [HM4.out.bB.cell]; rfl)))
              go_ret2
              exact ⟨by rw [HR.out]; rfl, (HKE.out.trans HM4.out.kp (fun _ _ e => e))⟩
            | some m =>
              have HO2 := Lib.hid (And.intro (show opA x r = none by rw [HOA.out]; simp [k11]) (show opB x r = (some m) by rw [HOB.out]; simp [k13]))
              have HR : Hid (resR x r = none) := Lib.hid (by rw [HRR.out, HO2.out.1, HO2.out.2])
              go_wp2_with (first | (refine wpList_loadB rfl _ 32 rfl aggVal HI0.out (valA (some m)) (by rw [HI1.out, valA_size]) ⟨g2 + 1, x.src.toNat * 4, none⟩ (by first | rfl | simp) (fun k u hu => by rw [add_n, HC.out.2.cell]; exact rowA_get HVS.out k u hu) ?_) | (refine wpList_storeB rfl _ _ 32 rfl HI0.out gB 0 32 (valA (some (signN x.imm))) (valA (some m)) rfl rfl (by rw [HI1.out, valA_size]) (by simp [valA_size]) (by exact valA_one _) HM.out.bB ?_; intro w4 hb4 hk4; have HM4 := Lib.hid (HM.out.stB hb4 hk4); clear hb4 hk4 q0 q1 q2 q4; have kgA : w4.cell? ⟨gA, 0, none⟩ = some (.int .i64 0) := (by rw [HM4.out.bA.cell]; rfl); have kgB : w4.cell? ⟨gB, 0, none⟩ = some (.int .i64 1) := (by rw [HM4.out.bB.cell]; rfl); have ngB : w4.cell? ⟨gB, 1, none⟩ = some (.int .u64 ((m : Nat) : Int)) := (by rw [HM4.out.bB.cell]; rfl)))
              go_ret2
              exact ⟨by rw [HR.out]; rfl, (HKE.out.trans HM4.out.kp (fun _ _ e => e))⟩
          | some n =>
            cases vs with
            | none =>
              have HO2 := Lib.hid (And.intro (show opA x r = (some n) by rw [HOA.out]; simp [k11]) (show opB x r = none by rw [HOB.out]; simp [k13]))
              have HR : Hid (resR x r = none) := Lib.hid (by rw [HRR.out, HO2.out.1, HO2.out.2])
              go_wp2_with (first | (refine wpList_loadB rfl _ 32 rfl aggVal HI0.out (valA none) (by rw [HI1.out, valA_size]) ⟨g2 + 1, x.src.toNat * 4, none⟩ (by first | rfl | simp) (fun k u hu => by rw [add_n, HC.out.2.cell]; exact rowA_get HVS.out k u hu) ?_) | (refine wpList_storeB rfl _ _ 32 rfl HI0.out gB 0 32 (valA (some (signN x.imm))) (valA none) rfl rfl (by rw [HI1.out, valA_size]) (by simp [valA_size]) (by exact valA_one _) HM.out.bB ?_; intro w4 hb4 hk4; have HM4 := Lib.hid (HM.out.stB hb4 hk4); clear hb4 hk4 q0 q1 q2 q4; have kgA : w4.cell? ⟨gA, 0, none⟩ = some (.int .i64 1) := (by rw [HM4.out.bA.cell]; rfl); have ngA : w4.cell? ⟨gA, 1, none⟩ = some (.int .u64 ((n : Nat) : Int)) := (by rw [HM4.out.bA.cell]; rfl); have kgB : w4.cell? ⟨gB, 0, none⟩ = some (.int .i64 0) := (by rw [HM4.out.bB.cell]; rfl)))
              go_ret2
              exact ⟨by rw [HR.out]; rfl, (HKE.out.trans HM4.out.kp (fun _ _ e => e))⟩
            | some m =>
              have HO2 := Lib.hid (And.intro (show opA x r = (some n) by rw [HOA.out]; simp [k11]) (show opB x r = (some m) by rw [HOB.out]; simp [k13]))
              have hna := HNM.out _ _ HVA.out
              have hnb := HNM.out _ _ HVS.out
              have HR : Hid (resR x r = some (doN (k : Int).toNat wd n m)) := Lib.hid (by rw [HRR.out, HO2.out.1, HO2.out.2]; show some (resV x _ _) = _; unfold resV codeN; rw [HCK.out, HWD.out, if_neg k13])
              go_wp2_with (first | (refine wpList_loadB rfl _ 32 rfl aggVal HI0.out (valA (some m)) (by rw [HI1.out, valA_size]) ⟨g2 + 1, x.src.toNat * 4, none⟩ (by first | rfl | simp) (fun k u hu => by rw [add_n, HC.out.2.cell]; exact rowA_get HVS.out k u hu) ?_) | (refine wpList_storeB rfl _ _ 32 rfl HI0.out gB 0 32 (valA (some (signN x.imm))) (valA (some m)) rfl rfl (by rw [HI1.out, valA_size]) (by simp [valA_size]) (by exact valA_one _) HM.out.bB ?_; intro w4 hb4 hk4; have HM4 := Lib.hid (HM.out.stB hb4 hk4); clear hb4 hk4 q0 q1 q2 q4; have kgA : w4.cell? ⟨gA, 0, none⟩ = some (.int .i64 1) := (by rw [HM4.out.bA.cell]; rfl); have ngA : w4.cell? ⟨gA, 1, none⟩ = some (.int .u64 ((n : Nat) : Int)) := (by rw [HM4.out.bA.cell]; rfl); have kgB : w4.cell? ⟨gB, 0, none⟩ = some (.int .i64 1) := (by rw [HM4.out.bB.cell]; rfl); have ngB : w4.cell? ⟨gB, 1, none⟩ = some (.int .u64 ((m : Nat) : Int)) := (by rw [HM4.out.bB.cell]; rfl)))
              refine (HDO.out n m _ k13 hna hnb).mono ?_
              rintro e w3 ⟨rfl, hk3⟩
              go_wp2_with fail
              go_ret2
              exact ⟨by rw [HR.out]; rfl, ((HKE.out.trans HM4.out.kp (fun _ _ e => e)).trans hk3 (fun _ _ e => e))⟩

end Go.Proofs.YtdchmelgaljpfaaGreat

set_option linter.unusedSimpArgs false
set_option linter.unusedVariables false
namespace Go.Proofs.YtdchmelgaljpfaaGreat
open Go.RowKit

theorem infoRow : (Tryz.prog.info? 88).map (·.size) = some 44 := by kernel_rfl
theorem aggRow : ∀ w, (isAgg 88).run Tryz.prog w = .ok true w := fun w => by kernel_rfl
theorem rowA_one (R : KR) : ∀ y ∈ (rowA R).toList, y.oneCell' = true := fun y hy => rowC_one R y (by simpa [rowA] using hy)
theorem rowA_sz {R : KR} (h : R.length = 11) : (rowA R).size = 44 := by rw [rowA_size, h]
abbrev noneR : KR := List.replicate 11 none
theorem splice_row {x y : KR} (hx : x.length = 11) (hy : y.length = 11) : spliceA (rowA x) 0 (rowA y) = rowA y := by
  unfold spliceA
  have e : (rowA x).toList.drop (0 + (rowA y).size) = [] := List.drop_eq_nil_of_le (by rw [Array.length_toList, rowA_sz hx, rowA_sz hy]; omega)
  rw [e]
  simp
def meetN (a b : KR) (i : Nat) : KR := (meetR a b).take i ++ a.drop i
theorem meetN_get {a b : KR} (hl : a.length = b.length) {i : Nat} (j : Nat) (hj : i ≤ j) : (meetN a b i)[j]? = a[j]? := by
  unfold meetN
  by_cases hi : i ≤ a.length
  · rw [List.getElem?_append_right (by rw [List.length_take, meetR_len hl]; omega), List.length_take, meetR_len hl, Nat.min_eq_left hi, List.getElem?_drop]
    congr 1; omega
  · rw [List.drop_eq_nil_of_le (by omega), List.append_nil, List.take_of_length_le (by rw [meetR_len hl]; omega), List.getElem?_eq_none (by rw [meetR_len hl]; omega), List.getElem?_eq_none (by omega)]
theorem meetN_succ {a b : KR} (hl : a.length = b.length) {i : Nat} {x y : Option Nat} (ha : a[i]? = some x) (hb : b[i]? = some y) : meetN a b (i + 1) = (meetN a b i).set i (if x = y then x else none) := by
  have hi := (List.getElem?_eq_some_iff.1 ha).1
  have hm := meetR_get i ha hb
  unfold meetN
  rw [List.take_add_one, hm]
  simp only [Option.toList]
  rw [List.set_append_right _ _ (by rw [List.length_take, meetR_len hl]; omega), List.length_take, meetR_len hl, Nat.min_eq_left (by omega), Nat.sub_self]
  rw [List.drop_eq_getElem_cons hi, List.set_cons_zero, List.append_assoc]
  rfl
theorem meetN_same {a b : KR} (hl : a.length = b.length) {i : Nat} {x : Option Nat} (ha : a[i]? = some x) (hb : b[i]? = some x) : meetN a b (i + 1) = meetN a b i := by
  rw [meetN_succ hl ha hb, if_pos rfl]
  apply List.ext_getElem?
  intro j
  rw [List.getElem?_set]
  by_cases h : i = j
  · subst h
    rw [if_pos rfl, meetN_get hl i (Nat.le_refl _), ha]
    split
    · rfl
    · rename_i hc
      exact absurd (by unfold meetN; rw [List.length_append, List.length_take, List.length_drop, meetR_len hl]; have := (List.getElem?_eq_some_iff.1 ha).1; omega) hc
  · rw [if_neg h]
theorem meetN_zero (a b : KR) : meetN a b 0 = a := by simp [meetN]
theorem meetN_end {a b : KR} (hl : a.length = b.length) (h : a.length = 11) : meetN a b 11 = meetR a b := by
  unfold meetN
  rw [List.take_of_length_le (by rw [meetR_len hl]; omega), List.drop_eq_nil_of_le (by omega), List.append_nil]
theorem meetN_len {a b : KR} (hl : a.length = b.length) (i : Nat) : (meetN a b i).length = a.length := by
  unfold meetN
  rw [List.length_append, List.length_take, List.length_drop, meetR_len hl]
  omega

set_option maxHeartbeats 4000000 in
set_option maxRecDepth 100000 in
theorem meet_any (a b : KR) (w : World) (ha : a.length = 11) (hb : b.length = 11) : Calls Tryz.prog 55 #[.agg (rowA a), .agg (rowA b)] w fun e w' => e = .returned (.agg (rowA (meetR a b))) ∧ Kept (fun _ => False) w w' := by
  obtain ⟨i0, hV0, hV1⟩ := Option.map_eq_some_iff.1 infoVal
  obtain ⟨i1, hR0, hR1⟩ := Option.map_eq_some_iff.1 infoRow
  have HV0 := Lib.hid hV0
  have HV1 := Lib.hid hV1
  have HR0 := Lib.hid hR0
  have HR1 := Lib.hid hR1
  clear hV0 hV1 hR0 hR1
  go_enter Tryz.func55, Tryz.ntmps55
  go_wp2_with fail
  have hb2 : Blk (((w.alloc (.cells (rowA a) 88)).alloc (.cells (rowA b) 88)).alloc (.cells (rowA noneR) 88)) w.heap.size 88 (rowA a) := ((Blk.new w _ _).alloc _).alloc _
  have hb3 : Blk (((w.alloc (.cells (rowA a) 88)).alloc (.cells (rowA b) 88)).alloc (.cells (rowA noneR) 88)) (w.heap.size + 1) 88 (rowA b) := by have := (Blk.new (w.alloc (.cells (rowA a) 88)) 88 (rowA b)).alloc (.cells (rowA noneR) 88); simpa using this
  have hb4 : Blk (((w.alloc (.cells (rowA a) 88)).alloc (.cells (rowA b) 88)).alloc (.cells (rowA noneR) 88)) (w.heap.size + 1 + 1) 88 (rowA noneR) := by have := (Blk.new ((w.alloc (.cells (rowA a) 88)).alloc (.cells (rowA b) 88)) 88 (rowA noneR)); simpa using this
  have hk0 : Kept (fun _ => False) w (((w.alloc (.cells (rowA a) 88)).alloc (.cells (rowA b) 88)).alloc (.cells (rowA noneR) 88)) := (((Kept.refl _ w).alloc _).alloc _).alloc _
  have HL0 := Lib.hid (And.intro hb2 (And.intro hb3 (And.intro hb4 hk0)))
  clear hb2 hb3 hb4 hk0
  generalize hg : w.heap.size = g2 at *
  go_loopw [6] (fun iv wr => ∃ i : Nat, iv = .int .i64 i ∧ i ≤ 11 ∧ Blk wr g2 88 (rowA (meetN a b i)) ∧ Blk wr (g2 + 1) 88 (rowA b) ∧ Blk wr (g2 + 1 + 1) 88 (rowA noneR) ∧ Kept (fun _ => False) w wr) (fun iv _ => 11 - (intOf iv).toNat)
  case atStart => exact ⟨0, rfl, by omega, by rw [meetN_zero]; exact HL0.out.1, HL0.out.2.1, HL0.out.2.2.1, HL0.out.2.2.2⟩
  case round =>
    obtain ⟨i, rfl, hi, h2, h3, h4, hK⟩ := hrel
    have H2 := Lib.hid h2
    have H3 := Lib.hid h3
    have H4 := Lib.hid h4
    have HK := Lib.hid hK
    clear h2 h3 h4 hK HL0
    by_cases hlt : i < 11
    case neg =>
      obtain rfl : i = 11 := by omega
      rw [meetN_end (ha.trans hb.symm) ha] at H2
      go_wp2_with (first | (refine wpList_loadB rfl _ 88 rfl aggRow HR0.out (rowA (meetR a b)) (by rw [HR1.out, rowA_sz (by rw [meetR_len (ha.trans hb.symm), ha])]) ⟨g2, 0, none⟩ rfl (fun k u hu => by rw [add_n, H2.out.cell, Nat.zero_add]; exact hu) ?_) | (refine wpList_storeB rfl _ _ 88 rfl HR0.out (g2 + 1 + 1) 0 88 (rowA noneR) (rowA (meetR a b)) rfl rfl (by rw [HR1.out, rowA_sz (by rw [meetR_len (ha.trans hb.symm), ha])]) (by rw [rowA_sz (by rw [meetR_len (ha.trans hb.symm), ha]), rowA_sz rfl]; omega) (rowA_one _) H4.out ?_; intro w5 hb5 hk5))
      rw [splice_row rfl (by rw [meetR_len (ha.trans hb.symm), ha])] at hb5
      have hk : Kept (fun _ => False) w w5 := HK.out.trans hk5 (fun k hk e => by omega)
      exact bodyPost_ret (v := .agg (rowA (meetR a b))) (results_cellA rfl _ _ (g2 + 1 + 1) _ _ (0, 0) _ rfl hb5 Tryz.underlying88 rfl (by rw [infoRow, rowA_sz (by rw [meetR_len (ha.trans hb.symm), ha])])) rfl ⟨rfl, hk⟩
    case pos =>
      obtain ⟨x, hx⟩ : ∃ x, a[i]? = some x := ⟨_, List.getElem?_eq_getElem (by omega)⟩
      obtain ⟨y, hy⟩ : ∃ y, b[i]? = some y := ⟨_, List.getElem?_eq_getElem (by omega)⟩
      have HX := Lib.hid ((meetN_get (ha.trans hb.symm) i (Nat.le_refl _)).trans hx)
      have HY := Lib.hid hy
      have hm : x = y → meetN a b (i + 1) = meetN a b i := fun e => meetN_same (ha.trans hb.symm) hx (e ▸ hy)
      have hm2 : x ≠ y → meetN a b (i + 1) = (meetN a b i).set i none := fun e => by rw [meetN_succ (ha.trans hb.symm) hx hy, if_neg e]
      have HM := Lib.hid (And.intro hm hm2)
      clear hm hm2 hx hy
      go_wp2_with fail
      refine wp_region_mix0 [.w, .w, .l, .w, .w, .l, .l] (by kernel_rfl) (by kernel_rfl) ?_
      refine mix_w1 ?_; go_big_quiet_step (fail); refine wpQuiet_nil ?_
      refine mix_w1 ?_; go_big_quiet_step (fail); refine wpQuiet_nil ?_
      refine mix_loadB rfl rfl _ 32 rfl aggVal HV0.out (valA x) (by rw [HV1.out, valA_size]) ⟨g2, i * 4, none⟩ (by first | rfl | simp) (fun w' hb k u hu => by subst hb; rw [add_n]; show wr.cell? _ = _; rw [H2.out.cell]; exact rowA_get HX.out k u hu) ?_
      try simp only [Act.put, List.setIfInBounds_toArray, List.set_cons_succ, List.set_cons_zero]
      refine mix_w1 ?_; go_big_quiet_step (fail); refine wpQuiet_nil ?_
      refine mix_w1 ?_; go_big_quiet_step (fail); refine wpQuiet_nil ?_
      refine mix_loadB rfl rfl _ 32 rfl aggVal HV0.out (valA y) (by rw [HV1.out, valA_size]) ⟨g2 + 1, i * 4, none⟩ (by first | rfl | simp) (fun w' hb k u hu => by subst hb; rw [add_n]; show wr.cell? _ = _; rw [H3.out.cell]; exact rowA_get HY.out k u hu) ?_
      try simp only [Act.put, List.setIfInBounds_toArray, List.set_cons_succ, List.set_cons_zero]
      refine mix_val1 rfl rfl (.bool (!(x == y))) (fun w' hw' => by
        simp [execOp, Act.eval, neqVal_run, guardVal_run, Result.andThen]) ?_
      try simp only [Act.put, List.setIfInBounds_toArray, List.set_cons_succ, List.set_cons_zero]
      refine mix_nil ?_
      have hSZ : (meetN a b i).length = 11 := by rw [meetN_len (ha.trans hb.symm), ha]
      have HSZ := Lib.hid hSZ
      clear hSZ
      by_cases hxy : x = y
      · have HE := Lib.hid (HM.out.1 hxy)
        subst hxy
        have hq : (x == x) = true := by simp
        rw [hq]
        go_wp2_with fail
        refine ⟨⟨i + 1, by simp, by omega, by rw [HE.out]; exact H2.out, H3.out, H4.out, HK.out.drew⟩, ?_⟩
        show 11 - ((i : Int) + 1).toNat < 11 - ((i : Int)).toNat
        omega
      · have hq : (x == y) = false := by simpa using hxy
        have HE := Lib.hid (HM.out.2 hxy)
        rw [hq]
        clear hxy hq
        go_wp2_with (first | (refine wpList_storeB rfl _ _ 32 rfl HV0.out g2 (i * 4) 88 (rowA (meetN a b i)) (valA none) rfl rfl (by rw [HV1.out, valA_size]) (by rw [rowA_sz HSZ.out, valA_size]; omega) (valA_one _) H2.out ?_; intro w5 hb5 hk5))
        rw [rowA_set (by rw [HSZ.out]; exact hlt), ← HE.out] at hb5
        refine ⟨⟨i + 1, by simp, by omega, hb5, hk5.blk (by omega) H3.out, hk5.blk (by omega) H4.out, HK.out.drew.trans hk5 (fun k hk e => by omega)⟩, ?_⟩
        show 11 - ((i : Int) + 1).toNat < 11 - ((i : Int)).toNat
        omega

end Go.Proofs.YtdchmelgaljpfaaGreat

set_option linter.unusedSimpArgs false
set_option linter.unusedVariables false
namespace Go.Proofs.YtdchmelgaljpfaaGreat
open Go.RowKit

/-! ### wide numbers -/
def lowN (n : Int) : Nat := (n % 4294967296).toNat
def wideV (x y : In) : Nat := lowN x.imm + lowN y.imm * 4294967296
theorem lowN_lt (n : Int) : lowN n < 4294967296 := by unfold lowN; omega
theorem wideV_lt (x y : In) : wideV x y < 18446744073709551616 := by
  have := lowN_lt x.imm
  have := lowN_lt y.imm
  unfold wideV
  omega
theorem wide_or (x y : In) : bits .or .u64 ((lowN x.imm : Nat) : Int) (IntKind.u64.wrap (((lowN y.imm : Nat) : Int) * 4294967296)) = ((wideV x y : Nat) : Int) := by
  have h1 := lowN_lt x.imm
  have h2 := lowN_lt y.imm
  unfold wideV
  generalize lowN x.imm = a at *
  generalize lowN y.imm = b at *
  rw [wrapU, show ((b : Int) * 4294967296) % 18446744073709551616 = ((2 ^ 32 * b : Nat) : Int) by omega, u64_or_nat _ _ (by omega) (by omega), Nat.or_comm, ← Nat.two_pow_add_eq_or_of_lt h1]
  omega
theorem wide_or2 (x y : In) : bits .or .u64 ((lowN x.imm : Nat) : Int) (((lowN y.imm : Nat) : Int) * 4294967296) = ((wideV x y : Nat) : Int) := by
  have h := wide_or x y
  have h2 := lowN_lt y.imm
  rwa [wrapU, show (((lowN y.imm : Nat) : Int) * 4294967296) % 18446744073709551616 = ((lowN y.imm : Nat) : Int) * 4294967296 by omega] at h
theorem low_wrap2 (n : Int) : n % 4294967296 = ((lowN n : Nat) : Int) := by
  unfold lowN
  omega
set_option maxHeartbeats 8000000 in
set_option maxRecDepth 100000 in
theorem iwide_any (l : List In) (a : Option Addr) (c i : Nat) (x y : In) (w : World) (h : Ins w (.slice a l.length c) l) (hok : InsOk l) (hx : l[i]? = some x) (hy : l[i + 1]? = some y) (hk : knownB x = true) (ho : x.op = 24) :
    Calls Tryz.prog 114 #[.slice a l.length c, .int .i64 i] w fun e w' => e = .returned (.tuple #[.int .u64 (((if x.src = 0 then wideV x y else 0) : Nat) : Int), .bool (x.src == 0)]) ∧ Kept (fun _ => False) w w' := by
  have hlen := hok.len
  have hi := (List.getElem?_eq_some_iff.1 hx).1
  have hi2 := (List.getElem?_eq_some_iff.1 hy).1
  have hxo := hok.at_ hx
  have hyo := hok.at_ hy
  have HK := Lib.hid (fun W => known1_any x W hxo)
  rw [hk] at HK
  have HIN := Lib.hid (fun (W : World) (hk : Kept (fun _ => False) w W) => h.kept hk)
  have HX := Lib.hid hx
  have HY := Lib.hid hy
  have hnd : decide ((l.length : Int) - 1 ≤ i) = false := decide_eq_false (by omega)
  have ho3 : (x.op != 24) = false := by simp [ho]
  have hw1 := low_wrap2 x.imm
  have hw2 := low_wrap2 y.imm
  have HW := Lib.hid (wide_or2 x y)
  obtain ⟨gp, op, ep, zp, p0, p1, p2, p3, p4⟩ := h.at_ hx
  clear hx hy hk hok h ho
  subst ep
  generalize wideV x y = V at *
  by_cases h0 : x.src = 0
  · have h1 : (x.src == 0) = true := by simpa using h0
    have h2 : (x.src != 0) = false := by simp [h0]
    simp only [if_pos h0, h1]
    clear h0
    go_enter Tryz.func114, Tryz.ntmps114
    go_wp2_with fail
    refine (HK.out _).mono ?_
    rintro e w1 ⟨rfl, hk1⟩
    clear p0 p1 p2 p3 p4
    obtain ⟨gp, op, ep, zp, p0, p1, p2, p3, p4⟩ := (HIN.out w1 hk1).at_ HX.out
    obtain ⟨gq, oq, eq, zq, q0, q1, q2, q3, q4⟩ := (HIN.out w1 hk1).at_ HY.out
    cases ep
    cases eq
    go_wp2_with fail
    refine wp_region_mix0 [.w, .w, .w, .w, .l, .w, .w, .w, .w, .w, .w, .w, .l, .w, .w, .w, .w, .w, .w] (by kernel_rfl) (by kernel_rfl) ?_
    refine mix_w1 ?_; go_big_quiet_step (fail); refine wpQuiet_nil ?_
    refine mix_w1 ?_; go_big_quiet_step (fail); refine wpQuiet_nil ?_
    refine mix_w1 ?_; go_big_quiet_step (fail); refine wpQuiet_nil ?_
    refine mix_w1 ?_; go_big_quiet_step (fail); refine wpQuiet_nil ?_
    refine mix_l1 rfl ?_; go_big_quiet_step (fail); refine wpQuiet_nil ?_
    refine mix_w1 ?_; go_big_quiet_step (fail); refine wpQuiet_nil ?_
    refine mix_w1 ?_; go_big_quiet_step (fail); refine wpQuiet_nil ?_
    refine mix_w1 ?_; go_big_quiet_step (fail); refine wpQuiet_nil ?_
    refine mix_w1 ?_; go_big_quiet_step (fail); refine wpQuiet_nil ?_
    refine mix_w1 ?_; go_big_quiet_step (fail); refine wpQuiet_nil ?_
    refine mix_w1 ?_; go_big_quiet_step (fail); refine wpQuiet_nil ?_
    refine mix_w1 ?_; go_big_quiet_step (fail); refine wpQuiet_nil ?_
    refine mix_l1 rfl ?_; go_big_quiet_step (fail); refine wpQuiet_nil ?_
    refine mix_w1 ?_; go_big_quiet_step (fail); refine wpQuiet_nil ?_
    refine mix_w1 ?_; go_big_quiet_step (fail); refine wpQuiet_nil ?_
    refine mix_w1 ?_; go_big_quiet_step (fail); refine wpQuiet_nil ?_
    refine mix_w1 ?_; go_big_quiet_step (fail); refine wpQuiet_nil ?_
    refine mix_w1 ?_; go_big_quiet_step (fail); refine wpQuiet_nil ?_
    refine mix_w1 ?_; go_big_quiet_step (fail); refine wpQuiet_nil ?_
    refine mix_nil ?_
    go_wp2_with fail
    go_ret2
    exact ⟨congrArg (fun z : Int => Ending.returned (.tuple #[.int .u64 z, .bool true])) HW.out, hk1.drew⟩
  · have h1 : (x.src == 0) = false := by simpa using h0
    have h2 : (x.src != 0) = true := by simpa using h0
    simp only [if_neg h0, h1]
    clear h0
    go_enter Tryz.func114, Tryz.ntmps114
    go_wp2_with fail
    refine (HK.out _).mono ?_
    rintro e w1 ⟨rfl, hk1⟩
    clear p0 p1 p2 p3 p4
    obtain ⟨gp, op, ep, zp, p0, p1, p2, p3, p4⟩ := (HIN.out w1 hk1).at_ HX.out
    cases ep
    go_wp2_with fail
    go_ret2
    exact ⟨rfl, hk1⟩
end Go.Proofs.YtdchmelgaljpfaaGreat

set_option linter.unusedSimpArgs false
set_option linter.unusedVariables false
namespace Go.Proofs.YtdchmelgaljpfaaGreat
open Go.RowKit

/-! ### what is known behind a slot -/
def mapN (f : Nat → Option Nat → Option Nat) (r : KR) (i : Nat) : KR := (r.mapIdx f).take i ++ r.drop i
section
variable {f : Nat → Option Nat → Option Nat} {r : KR}
theorem mapN_len (i : Nat) : (mapN f r i).length = r.length := by
  unfold mapN
  rw [List.length_append, List.length_take, List.length_drop, List.length_mapIdx]
  omega
theorem mapN_get {i : Nat} (j : Nat) (hj : i ≤ j) : (mapN f r i)[j]? = r[j]? := by
  unfold mapN
  by_cases hi : i ≤ r.length
  · rw [List.getElem?_append_right (by rw [List.length_take, List.length_mapIdx]; omega), List.length_take, List.length_mapIdx, Nat.min_eq_left hi, List.getElem?_drop]
    congr 1; omega
  · rw [List.drop_eq_nil_of_le (by omega), List.append_nil, List.take_of_length_le (by rw [List.length_mapIdx]; omega), List.getElem?_eq_none (by rw [List.length_mapIdx]; omega), List.getElem?_eq_none (by omega)]
theorem mapN_succ {i : Nat} {x : Option Nat} (ha : r[i]? = some x) : mapN f r (i + 1) = (mapN f r i).set i (f i x) := by
  have hi := (List.getElem?_eq_some_iff.1 ha).1
  have hm : (r.mapIdx f)[i]? = some (f i x) := by rw [List.getElem?_mapIdx, ha]; rfl
  unfold mapN
  rw [List.take_add_one, hm]
  simp only [Option.toList]
  rw [List.set_append_right _ _ (by rw [List.length_take, List.length_mapIdx]; omega), List.length_take, List.length_mapIdx, Nat.min_eq_left (by omega), Nat.sub_self]
  rw [List.drop_eq_getElem_cons hi, List.set_cons_zero, List.append_assoc]
  rfl
theorem mapN_same {i : Nat} {x : Option Nat} (ha : r[i]? = some x) (hf : f i x = x) : mapN f r (i + 1) = mapN f r i := by
  rw [mapN_succ ha, hf]
  apply List.ext_getElem?
  intro j
  rw [List.getElem?_set]
  by_cases h : i = j
  · subst h
    rw [if_pos rfl, mapN_get i (Nat.le_refl _), ha, if_pos (by rw [mapN_len]; exact (List.getElem?_eq_some_iff.1 ha).1)]
  · rw [if_neg h]
theorem mapN_zero : mapN f r 0 = r := by simp [mapN]
theorem mapN_end (h : r.length = 11) : mapN f r 11 = r.mapIdx f := by
  unfold mapN
  rw [List.take_of_length_le (by rw [List.length_mapIdx]; omega), List.drop_eq_nil_of_le (by omega), List.append_nil]
end
def clearF (m : Nat) (i : Nat) (v : Option Nat) : Option Nat := if m.testBit i = true then none else v
def clearR (m : Nat) (r : KR) : KR := r.mapIdx (clearF m)
theorem clearR_len (m : Nat) (r : KR) : (clearR m r).length = r.length := by unfold clearR; rw [List.length_mapIdx]
/-- what the program knows behind slot x (y: the next one) -/
def behR (x y : In) (r : KR) : KR :=
  if x.op = 24 then (if x.src = 0 then (clearR (writesR x) r).set x.dst.toNat (some (wideV x y)) else clearR (writesR x) r)
  else if clsI x = 4 ∨ clsI x = 7 then (match resR x r with
    | some n => (clearR (writesR x) r).set x.dst.toNat (some n)
    | none => clearR (writesR x) r)
  else clearR (writesR x) r
theorem behR_len (x y : In) (r : KR) : (behR x y r).length = r.length := by
  unfold behR
  split
  · split
    · rw [List.length_set, clearR_len]
    · rw [clearR_len]
  · split
    · split
      · rw [List.length_set, clearR_len]
      · rw [clearR_len]
    · rw [clearR_len]
theorem and_one (m i : Nat) (hm : m < 65536) : bits .and .u16 ((m : Int) / 2 ^ i) 1 = if m.testBit i = true then 1 else 0 := by
  rw [pow_cast, ← Int.natCast_ediv]
  have h1 : m / 2 ^ i < 65536 := Nat.lt_of_le_of_lt (Nat.div_le_self _ _) hm
  have h2 : m.testBit i = (m / 2 ^ i).testBit 0 := by rw [Nat.testBit_div_two_pow]; simp
  rw [h2]
  generalize m / 2 ^ i = q at *
  have h3 : ∀ q : Nat, q < 65536 → bits .and .u16 (q : Int) 1 = ((q % 2 : Nat) : Int) := by
    intro q hq
    rw [show (1 : Int) = ((1 : Nat) : Int) from rfl, u16_and_nat q 1 hq (by omega), Nat.and_one_is_mod]
  rw [h3 q h1, Nat.testBit_zero]
  have : q % 2 = 0 ∨ q % 2 = 1 := by omega
  rcases this with h | h <;> simp [h]

theorem writesR_lt (x : In) : writesR x < 65536 := by
  unfold writesR
  split
  · rename_i h
    have h2 := bitN_lt (rightB_regs h).1
    unfold writesN
    split
    · omega
    · split <;> omega
  · omega
theorem ari_of {x : In} {r : KR} (ho : InOk x) (hr : rightB x = true) (hl : r.length = 11) (hn : ∀ (j v : Nat), r[j]? = some (some v) → v < 18446744073709551616) (hc : clsI x = 4 ∨ clsI x = 7) : Ari x r := by
  have hk := right_known hr
  obtain ⟨h1, h2⟩ := rightB_regs hr
  unfold knownB at hk
  rw [if_pos hc] at hk
  unfold arithB at hk
  have hcd : codeI x ≤ 13 := by
    split at hk
    · split at hk
      · omega
      · split at hk
        · omega
        · split at hk
          · cases hk
          · omega
    · cases hk
  refine ⟨ho, hc, hcd, fun h13 => ?_, h1, h2, hl, hn⟩
  split at hk
  · simp [h13] at hk
    omega
  · cases hk
/-- what fold.behind has in memory -/
structure BH (w0 w : World) (g5 g6 g7 g10 : Nat) (x : In) (r R : KR) : Prop where
  kp : Kept (fun _ => False) w0 w
  b5 : Blk w g5 88 (rowA R)
  b6 : Blk w g6 88 (rowA noneR)
  b7 : Blk w g7 75 (inVals x)
  b10 : Blk w g10 88 (rowA r)
  n5 : w0.heap.size ≤ g5
  d6 : g5 ≠ g6
  d7 : g5 ≠ g7
  d10 : g5 ≠ g10
  e6 : g6 ≠ g7 ∧ g6 ≠ g10 ∧ w0.heap.size ≤ g6
section
variable {w0 w w' : World} {g5 g6 g7 g10 : Nat} {x : In} {r R R' : KR}
theorem BH.quiet (h : BH w0 w g5 g6 g7 g10 x r R) (hk : Kept (fun _ => False) w w') : BH w0 w' g5 g6 g7 g10 x r R :=
  ⟨h.kp.trans hk (fun _ _ e => e), hk.blk (fun e => e) h.b5, hk.blk (fun e => e) h.b6, hk.blk (fun e => e) h.b7, hk.blk (fun e => e) h.b10, h.n5, h.d6, h.d7, h.d10, h.e6⟩
theorem BH.set (h : BH w0 w g5 g6 g7 g10 x r R) (hb : Blk w' g5 88 (rowA R')) (hk : Kept (fun k => k = g5) w w') : BH w0 w' g5 g6 g7 g10 x r R' :=
  ⟨h.kp.trans hk (fun k hk' e => by have := h.n5; omega), hb, hk.blk (fun e => h.d6 e.symm) h.b6, hk.blk (fun e => h.d7 e.symm) h.b7, hk.blk (fun e => h.d10 e.symm) h.b10, h.n5, h.d6, h.d7, h.d10, h.e6⟩
theorem BH.drew (h : BH w0 w g5 g6 g7 g10 x r R) : BH w0 w.drew g5 g6 g7 g10 x r R := h.quiet (Kept.refl _ w).drew
end
set_option maxHeartbeats 8000000 in
set_option maxRecDepth 100000 in
theorem behind_any (l : List In) (a : Option Addr) (c i : Nat) (x y : In) (r : KR) (w : World) (h : Ins w (.slice a l.length c) l) (hok : InsOk l) (hx : l[i]? = some x) (hr : rightB x = true) (hy : x.op = 24 → l[i + 1]? = some y) (hl : r.length = 11)
    (hn : ∀ (j v : Nat), r[j]? = some (some v) → v < 18446744073709551616) :
    Calls Tryz.prog 53 #[.slice a l.length c, .int .i64 i, .agg (rowA r)] w fun e w' => e = .returned (.agg (rowA (behR x y r))) ∧ Kept (fun _ => False) w w' := by
  obtain ⟨i0, hV0, hV1⟩ := Option.map_eq_some_iff.1 infoVal
  obtain ⟨i1, hR0, hR1⟩ := Option.map_eq_some_iff.1 infoRow
  have HV0 := Lib.hid hV0
  have HV1 := Lib.hid hV1
  have HR0 := Lib.hid hR0
  have HR1 := Lib.hid hR1
  clear hV0 hV1 hR0 hR1
  have hlen := hok.len
  have hi := (List.getElem?_eq_some_iff.1 hx).1
  have hxo := hok.at_ hx
  have HLW := Lib.hid (fun W => lWrites_any x W hxo)
  have HIN := Lib.hid (fun (W : World) (hk : Kept (fun _ => False) w W) => h.kept hk)
  have HW := Lib.hid (fun W (hI : Ins W (.slice a l.length c) l) (ho : x.op = 24) => iwide_any l a c i x y W hI hok hx (hy ho) (right_known hr) ho)
  obtain ⟨gp, op, ep, zp, p0, p1, p2, p3, p4⟩ := h.at_ hx
  have HX := Lib.hid hx
  have HR := Lib.hid hr
  clear h hok hx hy hr
  subst ep
  go_enter Tryz.func53, Tryz.ntmps53
  go_wp2_with fail
  have hw1 : Blk (((w.alloc (.cells (rowA r) 88)).alloc (.cells (rowA noneR) 88)).alloc (.cells (inVals x) 75)) w.heap.size 88 (rowA r) := ((Blk.new w _ _).alloc _).alloc _
  have hw2 : Blk (((w.alloc (.cells (rowA r) 88)).alloc (.cells (rowA noneR) 88)).alloc (.cells (inVals x) 75)) (w.heap.size + 1) 88 (rowA noneR) := by have := (Blk.new (w.alloc (.cells (rowA r) 88)) 88 (rowA noneR)).alloc (.cells (inVals x) 75); simpa using this
  have hw3 : Blk (((w.alloc (.cells (rowA r) 88)).alloc (.cells (rowA noneR) 88)).alloc (.cells (inVals x) 75)) (w.heap.size + 1 + 1) 75 (inVals x) := by have := (Blk.new ((w.alloc (.cells (rowA r) 88)).alloc (.cells (rowA noneR) 88)) 75 (inVals x)); simpa using this
  have hkA : Kept (fun _ => False) w (((w.alloc (.cells (rowA r) 88)).alloc (.cells (rowA noneR) 88)).alloc (.cells (inVals x) 75)) := (((Kept.refl _ w).alloc _).alloc _).alloc _
  have hsA : (((w.alloc (.cells (rowA r) 88)).alloc (.cells (rowA noneR) 88)).alloc (.cells (inVals x) 75)).heap.size = w.heap.size + 3 := by simp
  refine (HLW.out _).mono ?_
  rintro e w1 ⟨rfl, hk1⟩
  have HB1 := Lib.hid (show Blk w1 w.heap.size 88 (rowA r) ∧ Blk w1 (w.heap.size + 1) 88 (rowA noneR) ∧ Blk w1 (w.heap.size + 1 + 1) 75 (inVals x) ∧ Kept (fun _ => False) w w1 ∧ w.heap.size + 3 ≤ w1.heap.size from ⟨hk1.blk (fun e => e) hw1, hk1.blk (fun e => e) hw2, hk1.blk (fun e => e) hw3, hkA.trans hk1 (fun _ _ e => e), Nat.le_trans (Nat.le_of_eq hsA.symm) hk1.size⟩)
  clear hw1 hw2 hw3 hkA hsA hk1
  have hm := writesR_lt x
  have hbeh := behR.eq_1 x y r
  have HBEH := Lib.hid hbeh
  clear hbeh
  generalize hgm : writesR x = m at *
  have HN := Lib.hid hn
  clear hn hgm p0 p1 p2 p3 p4
  generalize hg5 : w.heap.size = g5 at *
  go_wp2_with (first | (refine wpList_loadB rfl _ 88 rfl aggRow HR0.out (rowA r) (by rw [HR1.out, rowA_sz hl]) ⟨g5, 0, none⟩ rfl (fun k u hu => by rw [add_n, HB1.out.1.cell, Nat.zero_add]; exact hu) ?_) | (refine wpList_storeB rfl _ _ 88 rfl HR0.out w1.heap.size 0 88 (rowA noneR) (rowA r) rfl rfl (by rw [HR1.out, rowA_sz hl]) (by rw [rowA_sz hl, rowA_sz rfl]; omega) (rowA_one _) (by exact Blk.new w1 _ _) ?_; intro w3 hb3 hk3))
  have hB3 : BH w w3 g5 (g5 + 1) (g5 + 1 + 1) w1.heap.size x r (mapN (clearF m) r 0) := by
    obtain ⟨h1, h2, h3, h4, h5⟩ := HB1.out
    rw [splice_row rfl hl] at hb3
    rw [mapN_zero]
    refine ⟨?_, hk3.blk (by omega) (h1.alloc _), hk3.blk (by omega) (h2.alloc _), hk3.blk (by omega) (h3.alloc _), hb3, by omega, by omega, by omega, by omega, by omega, by omega, by omega⟩
    exact (h4.alloc _).trans hk3 (fun k hk e => by omega)
  have HB3 := Lib.hid hB3
  clear hB3 hb3 hk3 HB1
  generalize w1.heap.size = g10 at *
  go_loopw [27] (fun iv wr => ∃ j : Nat, iv = .int .i64 j ∧ j ≤ 11 ∧ BH w wr g5 (g5 + 1) (g5 + 1 + 1) g10 x r (mapN (clearF m) r j)) (fun iv _ => 11 - (intOf iv).toNat)
  case atStart => exact ⟨0, rfl, by omega, HB3.out⟩
  case round =>
    obtain ⟨j, rfl, hj, hB⟩ := hrel
    have HB := Lib.hid hB
    clear hB HB3
    by_cases hlt : j < 11
    case neg =>
      obtain rfl : j = 11 := by omega
      rw [mapN_end hl] at HB
      change Hid (BH w wr g5 (g5 + 1) (g5 + 1 + 1) g10 x r (clearR m r)) at HB
      have HCL := Lib.hid ((clearR_len m r).trans hl)
      have h7 := and7 hxo.op
      have q0 : wr.cell? ⟨g5 + 1 + 1, 0, none⟩ = some (.int .u8 x.op) := by rw [HB.out.b7.cell]; rfl
      have q1 : wr.cell? ⟨g5 + 1 + 1, 1, none⟩ = some (.int .u8 x.dst) := by rw [HB.out.b7.cell]; rfl
      have q2 : wr.cell? ⟨g5 + 1 + 1, 2, none⟩ = some (.int .u8 x.src) := by rw [HB.out.b7.cell]; rfl
      have q3 : wr.cell? ⟨g5 + 1 + 1, 3, none⟩ = some (.int .i16 x.off) := by rw [HB.out.b7.cell]; rfl
      have q4 : wr.cell? ⟨g5 + 1 + 1, 4, none⟩ = some (.int .i32 x.imm) := by rw [HB.out.b7.cell]; rfl
      by_cases ho : x.op = 24
      · have ho2 : (x.op == 24) = true := by simp [ho]
        have HW2 := Lib.hid (fun W (hk : Kept (fun _ => False) w W) => HW.out W (HIN.out W hk) ho)
        have HO := Lib.hid ho
        have hdst := hxo.dst
        have hd10 := (rightB_regs HR.out).1
        by_cases hs : x.src = 0
        · have hs2 : (x.src == 0) = true := by simpa using hs
          have HS := Lib.hid hs
          clear ho hs
          go_wp2_with fail
          refine (HW2.out _ HB.out.kp).mono ?_
          rintro e w5 ⟨rfl, hk5⟩
          have HB5 := Lib.hid (HB.out.quiet hk5)
          clear hk5 q0 q1 q2 q3 q4
          simp only [if_pos HS.out, hs2]
          generalize hwv : wideV x y = wv at *
          clear hwv
          go_wp2_with fail
          refine wp_region_mix [.w, .l, .w, .k, .w, .t] (by kernel_rfl) (by kernel_rfl) (fun W => BH w W g5 (g5 + 1) (g5 + 1 + 1) g10 x r (clearR m r)) ?_
          refine mix_w1 ?_; go_big_quiet_step (fail); refine wpQuiet_nil ?_
          have HD := Lib.hid HB5.out.drew
          refine mix_load1 HD.out rfl 5 _ rfl naU8 ⟨g5 + 1 + 1, 1, none⟩ (.int .u8 x.dst) rfl (fun w' hb => by rw [hb.b7.cell]; rfl) ?_
          try simp only [Act.put, List.setIfInBounds_toArray, List.set_cons_succ, List.set_cons_zero]
          refine mix_w1 ?_; go_big_quiet_step (fail); refine wpQuiet_nil ?_
          refine mix_k (by exact HD.out) fun Q' hQ' => ?_
          go_wp2_with fail
          refine (num_any wv _).mono ?_
          rintro e w6 ⟨rfl, hk6⟩
          have H6 := Lib.hid (HD.out.quiet hk6)
          clear hk6
          go_wp2_with fail
          refine hQ' _ _ H6.out ?_
          clear hQ' Q'
          refine mix_w1 ?_; go_big_quiet_step (fail); refine wpQuiet_nil ?_
          refine mix_t fun Q' hQ' => ?_
          refine wpList_storeB rfl _ _ 32 rfl HV0.out g5 (x.dst.toNat * 4) 88 (rowA (clearR m r)) (valA (some wv)) rfl rfl (by rw [HV1.out, valA_size]) (by rw [rowA_sz HCL.out, valA_size]; omega) (valA_one _) (by exact H6.out.b5) ?_
          intro w7 hb7 hk7
          rw [rowA_set (by rw [HCL.out]; omega)] at hb7
          have H7 := Lib.hid (H6.out.set hb7 hk7)
          refine hQ' _ _ ?_
          clear hQ' Q' hb7 hk7
          refine mix_nil ?_
          go_wp2_with (first | (refine wpList_loadB rfl _ 88 rfl aggRow HR0.out (rowA ((clearR m r).set x.dst.toNat (some wv))) (by rw [HR1.out, rowA_sz (by rw [List.length_set]; exact HCL.out)]) ⟨g5, 0, none⟩ rfl (fun k u hu => by rw [add_n, H7.out.b5.cell, Nat.zero_add]; exact hu) ?_) | (refine wpList_storeB rfl _ _ 88 rfl HR0.out (g5 + 1) 0 88 (rowA noneR) (rowA ((clearR m r).set x.dst.toNat (some wv))) rfl rfl (by rw [HR1.out, rowA_sz (by rw [List.length_set]; exact HCL.out)]) (by rw [rowA_sz (by rw [List.length_set]; exact HCL.out), rowA_sz rfl]; omega) (rowA_one _) H7.out.b6 ?_; intro w9 hb9 hk9))
          rw [splice_row rfl (by rw [List.length_set]; exact HCL.out)] at hb9
          have hk : Kept (fun _ => False) w w9 := H7.out.kp.trans hk9 (fun k hk e => by have := H7.out.e6; omega)
          exact bodyPost_ret (v := .agg (rowA ((clearR m r).set x.dst.toNat (some wv)))) (results_cellA rfl _ _ (g5 + 1) _ _ (0, 0) _ rfl hb9 Tryz.underlying88 rfl (by rw [infoRow, rowA_sz (by rw [List.length_set]; exact HCL.out)])) rfl ⟨by rw [HBEH.out]; rw [if_pos HO.out, if_pos HS.out], hk⟩
        · have hs2 : (x.src == 0) = false := by simpa using hs
          have HS := Lib.hid hs
          clear ho hs
          go_wp2_with fail
          refine (HW2.out _ HB.out.kp).mono ?_
          rintro e w5 ⟨rfl, hk5⟩
          have HB5 := Lib.hid (HB.out.quiet hk5)
          clear hk5 q0 q1 q2 q3 q4
          simp only [if_neg HS.out, hs2]
          go_wp2_with (first | (refine wpList_loadB rfl _ 88 rfl aggRow HR0.out (rowA (clearR m r)) (by rw [HR1.out, rowA_sz HCL.out]) ⟨g5, 0, none⟩ rfl (fun k u hu => by rw [add_n, HB5.out.b5.cell, Nat.zero_add]; exact hu) ?_) | (refine wpList_storeB rfl _ _ 88 rfl HR0.out (g5 + 1) 0 88 (rowA noneR) (rowA (clearR m r)) rfl rfl (by rw [HR1.out, rowA_sz HCL.out]) (by rw [rowA_sz HCL.out, rowA_sz rfl]; omega) (rowA_one _) HB5.out.b6 ?_; intro w9 hb9 hk9))
          rw [splice_row rfl HCL.out] at hb9
          have hk : Kept (fun _ => False) w w9 := HB5.out.kp.trans hk9 (fun k hk e => by have := HB5.out.e6; omega)
          exact bodyPost_ret (v := .agg (rowA (clearR m r))) (results_cellA rfl _ _ (g5 + 1) _ _ (0, 0) _ rfl hb9 Tryz.underlying88 rfl (by rw [infoRow, rowA_sz HCL.out])) rfl ⟨by rw [HBEH.out]; rw [if_pos HO.out, if_neg HS.out], hk⟩
      · have ho2 : (x.op == 24) = false := by simpa using ho
        have HO := Lib.hid ho
        clear ho
        have hdst := hxo.dst
        have hd10 := (rightB_regs HR.out).1
        by_cases hc : clsI x = 4 ∨ clsI x = 7
        · have HAR := Lib.hid (ari_of hxo HR.out hl HN.out hc)
          have HRE := Lib.hid (fun W => result_any x r W HAR.out)
          have HC := Lib.hid hc
          have hcv : x.op % 8 = 4 ∨ x.op % 8 = 7 := hc
          clear hc
          obtain ⟨b4, hb4⟩ : ∃ b4, (x.op % 8 == 4) = b4 := ⟨_, rfl⟩
          obtain ⟨b7, hb7⟩ : ∃ b7, (x.op % 8 == 7) = b7 := ⟨_, rfl⟩
          have hbb : b4 = true ∨ (b4 = false ∧ b7 = true) := by
            rcases hcv with h | h
            · left; rw [← hb4]; simp [h]
            · right; rw [← hb4, ← hb7]; simp [h]
          clear hcv
          have HRV := Lib.hid (rfl : resR x r = resR x r)
          generalize hrr : resR x r = rr at *
          rcases hbb with rfl | ⟨rfl, rfl⟩
          · cases rr with
            | none =>
              go_wp2_with (refine wpList_loadB rfl _ 88 rfl aggRow HR0.out (rowA r) (by rw [HR1.out, rowA_sz hl]) ⟨g10, 0, none⟩ rfl (fun k u hu => by rw [add_n, HB.out.b10.cell, Nat.zero_add]; exact hu) ?_)
              refine (HRE.out _).mono ?_
              rintro e w5 ⟨rfl, hk5⟩
              have HB5 := Lib.hid (HB.out.quiet hk5)
              clear hk5 q0 q1 q2 q3 q4
              simp only [Option.getD_none, Option.isSome_none]
              go_wp2_with (first | (refine wpList_loadB rfl _ 88 rfl aggRow HR0.out (rowA (clearR m r)) (by rw [HR1.out, rowA_sz HCL.out]) ⟨g5, 0, none⟩ rfl (fun k u hu => by rw [add_n, HB5.out.b5.cell, Nat.zero_add]; exact hu) ?_) | (refine wpList_storeB rfl _ _ 88 rfl HR0.out (g5 + 1) 0 88 (rowA noneR) (rowA (clearR m r)) rfl rfl (by rw [HR1.out, rowA_sz HCL.out]) (by rw [rowA_sz HCL.out, rowA_sz rfl]; omega) (rowA_one _) HB5.out.b6 ?_; intro w9 hb9 hk9))
              rw [splice_row rfl HCL.out] at hb9
              have hk : Kept (fun _ => False) w w9 := HB5.out.kp.trans hk9 (fun k hk e => by have := HB5.out.e6; omega)
              exact bodyPost_ret (v := .agg (rowA (clearR m r))) (results_cellA rfl _ _ (g5 + 1) _ _ (0, 0) _ rfl hb9 Tryz.underlying88 rfl (by rw [infoRow, rowA_sz HCL.out])) rfl ⟨by rw [HBEH.out]; rw [if_neg HO.out, if_pos HC.out], hk⟩
            | some nv =>
              go_wp2_with (refine wpList_loadB rfl _ 88 rfl aggRow HR0.out (rowA r) (by rw [HR1.out, rowA_sz hl]) ⟨g10, 0, none⟩ rfl (fun k u hu => by rw [add_n, HB.out.b10.cell, Nat.zero_add]; exact hu) ?_)
              refine (HRE.out _).mono ?_
              rintro e w5 ⟨rfl, hk5⟩
              have HB5 := Lib.hid (HB.out.quiet hk5)
              clear hk5 q0 q1 q2 q3 q4
              simp only [Option.getD_some, Option.isSome_some]
              go_wp2_with fail
              refine wp_region_mix [.w, .l, .w, .k, .w, .t] (by kernel_rfl) (by kernel_rfl) (fun W => BH w W g5 (g5 + 1) (g5 + 1 + 1) g10 x r (clearR m r)) ?_
              refine mix_w1 ?_; go_big_quiet_step (fail); refine wpQuiet_nil ?_
              have HD := Lib.hid HB5.out.drew
              refine mix_load1 HD.out rfl 5 _ rfl naU8 ⟨g5 + 1 + 1, 1, none⟩ (.int .u8 x.dst) rfl (fun w' hb => by rw [hb.b7.cell]; rfl) ?_
              try simp only [Act.put, List.setIfInBounds_toArray, List.set_cons_succ, List.set_cons_zero]
              refine mix_w1 ?_; go_big_quiet_step (fail); refine wpQuiet_nil ?_
              refine mix_k (by exact HD.out) fun Q' hQ' => ?_
              go_wp2_with fail
              refine (num_any nv _).mono ?_
              rintro e w6 ⟨rfl, hk6⟩
              have H6 := Lib.hid (HD.out.quiet hk6)
              clear hk6
              go_wp2_with fail
              refine hQ' _ _ H6.out ?_
              clear hQ' Q'
              refine mix_w1 ?_; go_big_quiet_step (fail); refine wpQuiet_nil ?_
              refine mix_t fun Q' hQ' => ?_
              refine wpList_storeB rfl _ _ 32 rfl HV0.out g5 (x.dst.toNat * 4) 88 (rowA (clearR m r)) (valA (some nv)) rfl rfl (by rw [HV1.out, valA_size]) (by rw [rowA_sz HCL.out, valA_size]; omega) (valA_one _) (by exact H6.out.b5) ?_
              intro w7 hb7 hk7
              rw [rowA_set (by rw [HCL.out]; omega)] at hb7
              have H7 := Lib.hid (H6.out.set hb7 hk7)
              refine hQ' _ _ ?_
              clear hQ' Q' hb7 hk7
              refine mix_nil ?_
              go_wp2_with (first | (refine wpList_loadB rfl _ 88 rfl aggRow HR0.out (rowA ((clearR m r).set x.dst.toNat (some nv))) (by rw [HR1.out, rowA_sz (by rw [List.length_set]; exact HCL.out)]) ⟨g5, 0, none⟩ rfl (fun k u hu => by rw [add_n, H7.out.b5.cell, Nat.zero_add]; exact hu) ?_) | (refine wpList_storeB rfl _ _ 88 rfl HR0.out (g5 + 1) 0 88 (rowA noneR) (rowA ((clearR m r).set x.dst.toNat (some nv))) rfl rfl (by rw [HR1.out, rowA_sz (by rw [List.length_set]; exact HCL.out)]) (by rw [rowA_sz (by rw [List.length_set]; exact HCL.out), rowA_sz rfl]; omega) (rowA_one _) H7.out.b6 ?_; intro w9 hb9 hk9))
              rw [splice_row rfl (by rw [List.length_set]; exact HCL.out)] at hb9
              have hk : Kept (fun _ => False) w w9 := H7.out.kp.trans hk9 (fun k hk e => by have := H7.out.e6; omega)
              exact bodyPost_ret (v := .agg (rowA ((clearR m r).set x.dst.toNat (some nv)))) (results_cellA rfl _ _ (g5 + 1) _ _ (0, 0) _ rfl hb9 Tryz.underlying88 rfl (by rw [infoRow, rowA_sz (by rw [List.length_set]; exact HCL.out)])) rfl ⟨by rw [HBEH.out]; rw [if_neg HO.out, if_pos HC.out], hk⟩
          · cases rr with
            | none =>
              go_wp2_with (refine wpList_loadB rfl _ 88 rfl aggRow HR0.out (rowA r) (by rw [HR1.out, rowA_sz hl]) ⟨g10, 0, none⟩ rfl (fun k u hu => by rw [add_n, HB.out.b10.cell, Nat.zero_add]; exact hu) ?_)
              refine (HRE.out _).mono ?_
              rintro e w5 ⟨rfl, hk5⟩
              have HB5 := Lib.hid (HB.out.quiet hk5)
              clear hk5 q0 q1 q2 q3 q4
              simp only [Option.getD_none, Option.isSome_none]
              go_wp2_with (first | (refine wpList_loadB rfl _ 88 rfl aggRow HR0.out (rowA (clearR m r)) (by rw [HR1.out, rowA_sz HCL.out]) ⟨g5, 0, none⟩ rfl (fun k u hu => by rw [add_n, HB5.out.b5.cell, Nat.zero_add]; exact hu) ?_) | (refine wpList_storeB rfl _ _ 88 rfl HR0.out (g5 + 1) 0 88 (rowA noneR) (rowA (clearR m r)) rfl rfl (by rw [HR1.out, rowA_sz HCL.out]) (by rw [rowA_sz HCL.out, rowA_sz rfl]; omega) (rowA_one _) HB5.out.b6 ?_; intro w9 hb9 hk9))
              rw [splice_row rfl HCL.out] at hb9
              have hk : Kept (fun _ => False) w w9 := HB5.out.kp.trans hk9 (fun k hk e => by have := HB5.out.e6; omega)
              exact bodyPost_ret (v := .agg (rowA (clearR m r))) (results_cellA rfl _ _ (g5 + 1) _ _ (0, 0) _ rfl hb9 Tryz.underlying88 rfl (by rw [infoRow, rowA_sz HCL.out])) rfl ⟨by rw [HBEH.out]; rw [if_neg HO.out, if_pos HC.out], hk⟩
            | some nv =>
              go_wp2_with (refine wpList_loadB rfl _ 88 rfl aggRow HR0.out (rowA r) (by rw [HR1.out, rowA_sz hl]) ⟨g10, 0, none⟩ rfl (fun k u hu => by rw [add_n, HB.out.b10.cell, Nat.zero_add]; exact hu) ?_)
              refine (HRE.out _).mono ?_
              rintro e w5 ⟨rfl, hk5⟩
              have HB5 := Lib.hid (HB.out.quiet hk5)
              clear hk5 q0 q1 q2 q3 q4
              simp only [Option.getD_some, Option.isSome_some]
              go_wp2_with fail
              refine wp_region_mix [.w, .l, .w, .k, .w, .t] (by kernel_rfl) (by kernel_rfl) (fun W => BH w W g5 (g5 + 1) (g5 + 1 + 1) g10 x r (clearR m r)) ?_
              refine mix_w1 ?_; go_big_quiet_step (fail); refine wpQuiet_nil ?_
              have HD := Lib.hid HB5.out.drew
              refine mix_load1 HD.out rfl 5 _ rfl naU8 ⟨g5 + 1 + 1, 1, none⟩ (.int .u8 x.dst) rfl (fun w' hb => by rw [hb.b7.cell]; rfl) ?_
              try simp only [Act.put, List.setIfInBounds_toArray, List.set_cons_succ, List.set_cons_zero]
              refine mix_w1 ?_; go_big_quiet_step (fail); refine wpQuiet_nil ?_
              refine mix_k (by exact HD.out) fun Q' hQ' => ?_
              go_wp2_with fail
              refine (num_any nv _).mono ?_
              rintro e w6 ⟨rfl, hk6⟩
              have H6 := Lib.hid (HD.out.quiet hk6)
              clear hk6
              go_wp2_with fail
              refine hQ' _ _ H6.out ?_
              clear hQ' Q'
              refine mix_w1 ?_; go_big_quiet_step (fail); refine wpQuiet_nil ?_
              refine mix_t fun Q' hQ' => ?_
              refine wpList_storeB rfl _ _ 32 rfl HV0.out g5 (x.dst.toNat * 4) 88 (rowA (clearR m r)) (valA (some nv)) rfl rfl (by rw [HV1.out, valA_size]) (by rw [rowA_sz HCL.out, valA_size]; omega) (valA_one _) (by exact H6.out.b5) ?_
              intro w7 hb7 hk7
              rw [rowA_set (by rw [HCL.out]; omega)] at hb7
              have H7 := Lib.hid (H6.out.set hb7 hk7)
              refine hQ' _ _ ?_
              clear hQ' Q' hb7 hk7
              refine mix_nil ?_
              go_wp2_with (first | (refine wpList_loadB rfl _ 88 rfl aggRow HR0.out (rowA ((clearR m r).set x.dst.toNat (some nv))) (by rw [HR1.out, rowA_sz (by rw [List.length_set]; exact HCL.out)]) ⟨g5, 0, none⟩ rfl (fun k u hu => by rw [add_n, H7.out.b5.cell, Nat.zero_add]; exact hu) ?_) | (refine wpList_storeB rfl _ _ 88 rfl HR0.out (g5 + 1) 0 88 (rowA noneR) (rowA ((clearR m r).set x.dst.toNat (some nv))) rfl rfl (by rw [HR1.out, rowA_sz (by rw [List.length_set]; exact HCL.out)]) (by rw [rowA_sz (by rw [List.length_set]; exact HCL.out), rowA_sz rfl]; omega) (rowA_one _) H7.out.b6 ?_; intro w9 hb9 hk9))
              rw [splice_row rfl (by rw [List.length_set]; exact HCL.out)] at hb9
              have hk : Kept (fun _ => False) w w9 := H7.out.kp.trans hk9 (fun k hk e => by have := H7.out.e6; omega)
              exact bodyPost_ret (v := .agg (rowA ((clearR m r).set x.dst.toNat (some nv)))) (results_cellA rfl _ _ (g5 + 1) _ _ (0, 0) _ rfl hb9 Tryz.underlying88 rfl (by rw [infoRow, rowA_sz (by rw [List.length_set]; exact HCL.out)])) rfl ⟨by rw [HBEH.out]; rw [if_neg HO.out, if_pos HC.out], hk⟩
        · have hc4 : (x.op % 8 == 4) = false := by
            have : ¬ x.op % 8 = 4 := fun e => hc (.inl e)
            simpa using this
          have hc7 : (x.op % 8 == 7) = false := by
            have : ¬ x.op % 8 = 7 := fun e => hc (.inr e)
            simpa using this
          have HC := Lib.hid hc
          clear hc
          go_wp2_with (first | (refine wpList_loadB rfl _ 88 rfl aggRow HR0.out (rowA (clearR m r)) (by rw [HR1.out, rowA_sz HCL.out]) ⟨g5, 0, none⟩ rfl (fun k u hu => by rw [add_n, HB.out.b5.cell, Nat.zero_add]; exact hu) ?_) | (refine wpList_storeB rfl _ _ 88 rfl HR0.out (g5 + 1) 0 88 (rowA noneR) (rowA (clearR m r)) rfl rfl (by rw [HR1.out, rowA_sz HCL.out]) (by rw [rowA_sz HCL.out, rowA_sz rfl]; omega) (rowA_one _) HB.out.b6 ?_; intro w9 hb9 hk9))
          rw [splice_row rfl HCL.out] at hb9
          have hk : Kept (fun _ => False) w w9 := HB.out.kp.trans hk9 (fun k hk e => by have := HB.out.e6; omega)
          exact bodyPost_ret (v := .agg (rowA (clearR m r))) (results_cellA rfl _ _ (g5 + 1) _ _ (0, 0) _ rfl hb9 Tryz.underlying88 rfl (by rw [infoRow, rowA_sz HCL.out])) rfl ⟨by rw [HBEH.out]; rw [if_neg HO.out, if_neg HC.out], hk⟩
    case pos =>
      obtain ⟨v, hv⟩ : ∃ v, r[j]? = some v := ⟨_, List.getElem?_eq_getElem (by omega)⟩
      have hbit := and_one m j hm
      have HLN := Lib.hid ((mapN_len (f := clearF m) (r := r) j).trans hl)
      by_cases htb : m.testBit j = true
      · rw [if_pos htb] at hbit
        have HE := Lib.hid (show mapN (clearF m) r (j + 1) = (mapN (clearF m) r j).set j none by rw [mapN_succ hv]; unfold clearF; rw [if_pos htb])
        clear hv htb
        go_wp2_with (first | (refine wpList_storeB rfl _ _ 32 rfl HV0.out g5 (j * 4) 88 (rowA (mapN (clearF m) r j)) (valA none) rfl rfl (by rw [HV1.out, valA_size]) (by rw [rowA_sz HLN.out, valA_size]; omega) (valA_one _) HB.out.b5 ?_; intro w5 hb5 hk5))
        rw [rowA_set (by rw [HLN.out]; exact hlt), ← HE.out] at hb5
        refine ⟨⟨j + 1, by simp, by omega, HB.out.set hb5 hk5⟩, ?_⟩
        show 11 - ((j : Int) + 1).toNat < 11 - ((j : Int)).toNat
        omega
      · rw [if_neg htb] at hbit
        have HE := Lib.hid (show mapN (clearF m) r (j + 1) = mapN (clearF m) r j from mapN_same hv (by unfold clearF; rw [if_neg htb]))
        clear hv htb
        go_wp2_with fail
        refine ⟨⟨j + 1, by simp, by omega, by rw [HE.out]; exact HB.out⟩, ?_⟩
        show 11 - ((j : Int) + 1).toNat < 11 - ((j : Int)).toNat
        omega

end Go.Proofs.YtdchmelgaljpfaaGreat

set_option linter.unusedSimpArgs false
set_option linter.unusedVariables false
namespace Go.Proofs.YtdchmelgaljpfaaGreat
open Go.RowKit

/-! ### the flow of a program, for the numbers (plain) -/
def NumOk (r : KR) : Prop := r.length = 11 ∧ ∀ (j v : Nat), r[j]? = some (some v) → v < 18446744073709551616
theorem clear_get {m : Nat} {r : KR} {j : Nat} {v : Nat} (h : (clearR m r)[j]? = some (some v)) : r[j]? = some (some v) ∧ m.testBit j = false := by
  unfold clearR at h
  rw [List.getElem?_mapIdx] at h
  cases hr : r[j]? with
  | none => rw [hr] at h; simp at h
  | some u =>
    rw [hr] at h
    simp only [Option.map_some, Option.some.injEq, clearF] at h
    split at h
    · cases h
    · rename_i hc
      subst h
      exact ⟨rfl, by simpa using hc⟩
theorem clear_get2 {m : Nat} {r : KR} {j : Nat} {v : Nat} (h : r[j]? = some (some v)) (hm : m.testBit j = false) : (clearR m r)[j]? = some (some v) := by
  unfold clearR
  rw [List.getElem?_mapIdx, h]
  simp [clearF, hm]
theorem clear_mono {m : Nat} {a b : KR} (h : LeR a b) : LeR (clearR m a) (clearR m b) :=
  ⟨by rw [clearR_len, clearR_len]; exact h.1, fun i v hv => clear_get2 (h.2 i v (clear_get hv).1) (clear_get hv).2⟩
theorem set_mono {a b : KR} {i : Nat} {u : Option Nat} (h : LeR a b) : LeR (a.set i u) (b.set i u) := by
  refine ⟨by rw [List.length_set, List.length_set]; exact h.1, fun j v hv => ?_⟩
  rw [List.getElem?_set] at hv ⊢
  by_cases e : i = j
  · rw [if_pos e] at hv ⊢
    split at hv
    · rename_i hl
      rw [if_pos (by rw [← h.1]; exact hl)]
      exact hv
    · cases hv
  · rw [if_neg e] at hv ⊢
    exact h.2 j v hv
theorem set_mono2 {a b : KR} {i : Nat} {u : Option Nat} (h : LeR a b) (hi : ∀ v, a[i]? ≠ some (some v)) : LeR a (b.set i u) := by
  refine ⟨by rw [List.length_set]; exact h.1, fun j v hv => ?_⟩
  rw [List.getElem?_set]
  by_cases e : i = j
  · subst e
    exact absurd hv (hi v)
  · rw [if_neg e]
    exact h.2 j v hv
theorem getD_mono {a b : KR} (h : LeR a b) {i v : Nat} (hv : a.getD i none = some v) : b.getD i none = some v := by
  rw [List.getD_eq_getElem?_getD] at hv ⊢
  cases ha : a[i]? with
  | none => rw [ha] at hv; cases hv
  | some u =>
    rw [ha] at hv
    have hu : u = some v := hv
    rw [h.2 i v (by rw [ha, hu])]
    rfl
theorem opA_mono {x : In} {a b : KR} (h : LeR a b) {v : Nat} (hv : opA x a = some v) : opA x b = some v := by
  unfold opA at hv ⊢
  split
  · rename_i hc; rw [if_pos hc] at hv; exact hv
  · rename_i hc; rw [if_neg hc] at hv; exact getD_mono h hv
theorem opB_mono {x : In} {a b : KR} (h : LeR a b) {v : Nat} (hv : opB x a = some v) : opB x b = some v := by
  unfold opB at hv ⊢
  split
  · rename_i hc; rw [if_pos hc] at hv; exact getD_mono h hv
  · rename_i hc; rw [if_neg hc] at hv; exact hv
theorem resR_some {x : In} {a : KR} {n : Nat} (h : resR x a = some n) : ∃ u v, opA x a = some u ∧ opB x a = some v ∧ n = resV x u v := by
  unfold resR at h
  cases hA : opA x a with
  | none => rw [hA] at h; cases h
  | some u =>
    cases hB : opB x a with
    | none => rw [hA, hB] at h; cases h
    | some v => rw [hA, hB] at h; cases h; exact ⟨u, v, rfl, rfl, rfl⟩
theorem resR_mono {x : In} {a b : KR} (h : LeR a b) {n : Nat} (hn : resR x a = some n) : resR x b = some n := by
  obtain ⟨u, v, h1, h2, rfl⟩ := resR_some hn
  unfold resR
  rw [opA_mono h h1, opB_mono h h2]
theorem writes_arith {x : In} (hr : rightB x = true) (hc : clsI x = 4 ∨ clsI x = 7) : writesR x = bitN x.dst := by
  unfold writesR writesN
  rw [if_pos hr, if_pos]
  unfold writesB
  rcases hc with h | h <;> simp [h]
theorem beh_mono {x y : In} {a b : KR} (hr : rightB x = true) (h : LeR a b) : LeR (behR x y a) (behR x y b) := by
  unfold behR
  split
  · split
    · exact set_mono (clear_mono h)
    · exact clear_mono h
  · split
    · rename_i hc
      cases ha : resR x a with
      | some n => rw [resR_mono h ha]; exact set_mono (clear_mono h)
      | none =>
        cases hb : resR x b with
        | none => exact clear_mono h
        | some n =>
          refine set_mono2 (clear_mono h) (fun v hv => ?_)
          have := (clear_get hv).2
          rw [writes_arith hr hc] at this
          unfold bitN at this
          rw [Nat.testBit_two_pow] at this
          simp at this
    · exact clear_mono h
theorem doN_lt (k : Nat) (wd : Bool) {a b : Nat} (ha : a < 18446744073709551616) (hb : b < 18446744073709551616) : doN k wd a b < 18446744073709551616 := by
  unfold doN
  split
  · exact alu_lt k 64 a b (.inr rfl) ha hb (by omega)
  · omega
theorem resV_lt {x : In} {a b : Nat} (ha : a < 18446744073709551616) (hb : b < 18446744073709551616) (hen : codeI x = 13 → x.imm = 16 ∨ x.imm = 32 ∨ x.imm = 64) : resV x a b < 18446744073709551616 := by
  unfold resV
  split
  · rename_i h
    split
    · rcases hen h with e | e | e <;> rw [e]
      · have := turn_lt a 2
        rw [show (256 : Nat) ^ 2 = 65536 by simp] at this
        show turnN 2 a < _
        omega
      · have := turn_lt a 4
        rw [show (256 : Nat) ^ 4 = 4294967296 by simp] at this
        show turnN 4 a < _
        omega
      · have := turn_lt a 8
        rw [show (256 : Nat) ^ 8 = 18446744073709551616 by simp] at this
        exact this
    · exact Nat.lt_of_le_of_lt (Nat.mod_le _ _) ha
  · exact doN_lt _ _ ha hb
theorem opA_lt {x : In} {r : KR} (h : NumOk r) {v : Nat} (hv : opA x r = some v) : v < 18446744073709551616 := by
  unfold opA at hv
  split at hv
  · cases hv; decide
  · rw [List.getD_eq_getElem?_getD] at hv
    cases hr : r[x.dst.toNat]? with
    | none => rw [hr] at hv; cases hv
    | some u => rw [hr] at hv; exact h.2 _ v (by rw [hr]; exact congrArg some hv)
theorem opB_lt {x : In} {r : KR} (h : NumOk r) {v : Nat} (hv : opB x r = some v) : v < 18446744073709551616 := by
  unfold opB at hv
  split at hv
  · rw [List.getD_eq_getElem?_getD] at hv
    cases hr : r[x.src.toNat]? with
    | none => rw [hr] at hv; cases hv
    | some u => rw [hr] at hv; exact h.2 _ v (by rw [hr]; exact congrArg some hv)
  · cases hv; exact signN_lt _
theorem num_set {r : KR} (h : NumOk r) (i : Nat) {n : Nat} (hn : n < 18446744073709551616) : NumOk (r.set i (some n)) := by
  refine ⟨by rw [List.length_set]; exact h.1, fun j v hv => ?_⟩
  rw [List.getElem?_set] at hv
  split at hv
  · split at hv
    · cases hv; exact hn
    · cases hv
  · exact h.2 j v hv
theorem num_clear {r : KR} (h : NumOk r) (m : Nat) : NumOk (clearR m r) := ⟨by rw [clearR_len]; exact h.1, fun j v hv => h.2 j v (clear_get hv).1⟩
theorem num_beh {x y : In} {r : KR} (ho : InOk x) (hr : rightB x = true) (h : NumOk r) : NumOk (behR x y r) := by
  unfold behR
  split
  · split
    · exact num_set (num_clear h _) _ (wideV_lt x y)
    · exact num_clear h _
  · split
    · rename_i hc
      cases ha : resR x r with
      | none => exact num_clear h _
      | some n =>
        obtain ⟨u, v, h1, h2, rfl⟩ := resR_some ha
        exact num_set (num_clear h _) _ (resV_lt (opA_lt h h1) (opB_lt h h2) (ari_of ho hr h.1 h.2 hc).en)
    · exact num_clear h _
theorem num_le {a b : KR} (h : LeR a b) (hb : NumOk b) : NumOk a := ⟨h.1.trans hb.1, fun j v hv => hb.2 j v (h.2 j v hv)⟩
theorem num_none : NumOk noneR := ⟨rfl, fun j v hv => by
  rw [List.getElem?_replicate] at hv
  split at hv <;> simp at hv⟩
def zeroIn : In := ⟨0, 0, 0, 0, 0⟩
def flwL (l : List In) : Flw where
  n := l.length
  next := fun i => match l[i]? with
    | some x => (nextC i x).map Int.toNat
    | none => []
  beh := fun i r => match l[i]? with
    | some x => if rightB x = true then behR x (l.getD (i + 1) zeroIn) r else r
    | none => r
  first := fun i => (∃ p ∈ partsL l, p.1 = (i : Int)) ∧ Rch l i
theorem flw_ok (l : List In) : (flwL l).Ok where
  mono i a b h := by
    show LeR (match l[i]? with | some x => if rightB x = true then behR x (l.getD (i + 1) zeroIn) a else a | none => a) (match l[i]? with | some x => if rightB x = true then behR x (l.getD (i + 1) zeroIn) b else b | none => b)
    split
    · split
      · rename_i hr; exact beh_mono hr h
      · exact h
    · exact h
  len i a h := by
    show (match l[i]? with | some x => if rightB x = true then behR x (l.getD (i + 1) zeroIn) a else a | none => a).length = 11
    split
    · split
      · rw [behR_len]; exact h
      · exact h
    · exact h
theorem flw_beh {l : List In} {i : Nat} {x : In} (hx : l[i]? = some x) (hr : rightB x = true) (r : KR) : (flwL l).beh i r = behR x (l.getD (i + 1) zeroIn) r := by
  show (match l[i]? with | some x => if rightB x = true then behR x (l.getD (i + 1) zeroIn) r else r | none => r) = _
  rw [hx]
  exact if_pos hr
theorem flw_next {l : List In} {i : Nat} {x : In} (hx : l[i]? = some x) : (flwL l).next i = (nextC i x).map Int.toNat := by
  show (match l[i]? with | some x => (nextC i x).map Int.toNat | none => []) = _
  rw [hx]
/-- an edge from a row above -/
theorem Flw.Top.set2 {f : Flw} (ok : f.Ok) {V : List (Option KR)} (h : f.Top V) {i j : Nat} {r b : KR} {v : Option KR} (hi : V[i]? = some (some r)) (hb : LeR (f.beh i r) b) (hn : j ∈ f.next i) (hj : V[j]? = some v) : f.Top (V.set j (some (meetO v b))) := by
  refine ⟨by rw [List.length_set]; exact h.len, fun U hU k u w hu hw => ?_⟩
  rw [List.getElem?_set] at hw
  split at hw
  · rename_i e
    subst e
    split at hw
    · cases hw
      have h1 := h.top U hU j u v hu hj
      have hui := List.getElem?_eq_getElem (l := U) (i := i) (by rw [hU.len, ← h.len]; exact (List.getElem?_eq_some_iff.1 hi).1)
      have h2 := h.top U hU i _ _ hui hi
      cases hUi : U[i]'(by rw [hU.len, ← h.len]; exact (List.getElem?_eq_some_iff.1 hi).1) with
      | none => rw [hUi] at h2; exact h2.elim
      | some a =>
        rw [hUi] at h2 hui
        obtain ⟨u', hu', hle⟩ := hU.step i a hui j hn
        rw [hu] at hu'
        cases hu'
        have h3 : LeO (some (f.beh i a)) (some b) := LeR.trans (ok.mono i a r h2) hb
        exact le_meetO h1 (LeO.trans hle h3)
    · cases hw
  · exact h.top U hU k u w hu hw
/-- what holds while it is worked out -/
structure WB (l : List In) (V : List (Option KR)) : Prop where
  len : V.length = l.length
  num : ∀ (i : Nat) (r : KR), V[i]? = some (some r) → NumOk r
  fst : ∀ i, (flwL l).first i → V[i]? = some (some noneR)
  rch : ∀ (i : Nat) (r : KR), V[i]? = some (some r) → Rch l i
  top : (flwL l).Top V
def WDone (l : List In) (V : List (Option KR)) (Q : List Nat) (todo : Nat → List Nat) : Prop :=
  ∀ (i : Nat) (r : KR), V[i]? = some (some r) → i ∉ Q → ∀ j ∈ todo i, ∃ v, V[j]? = some v ∧ LeO v (some ((flwL l).beh i r))
/-- between two slots -/
structure WI (l : List In) (V : List (Option KR)) (Q : List Nat) : Prop where
  b : WB l V
  q : ∀ i ∈ Q, ∃ r, V[i]? = some (some r)
  d : WDone l V Q (flwL l).next
/-- at slot i, whose row was r0, with k of its next ones done -/
structure WJ (l : List In) (V : List (Option KR)) (Q : List Nat) (i : Nat) (r0 : KR) (k : Nat) : Prop where
  b : WB l V
  q : ∀ i ∈ Q, ∃ r, V[i]? = some (some r)
  d : WDone l V Q (fun j => if j = i then ((flwL l).next i).take k else (flwL l).next j)
  own : ∃ r1, V[i]? = some (some r1) ∧ LeR r1 r0 ∧ (i ∉ Q → r1 = r0)
theorem WI.pop {l : List In} {V : List (Option KR)} {Q : List Nat} {i : Nat} (h : WI l V (Q ++ [i])) : ∃ r0, V[i]? = some (some r0) ∧ WJ l V Q i r0 0 := by
  obtain ⟨r0, hr⟩ := h.q i (by simp)
  refine ⟨r0, hr, h.b, fun j hj => h.q j (by simp [hj]), fun j r hj hq t ht => ?_, r0, hr, LeR.refl _, fun _ => rfl⟩
  by_cases e : j = i
  · dsimp only at ht; rw [if_pos e] at ht
    simp at ht
  · dsimp only at ht; rw [if_neg e] at ht
    exact h.d j r hj (by simp [hq, e]) t ht
theorem takeN_mem {L : List Nat} {k t : Nat} (h : t ∈ L.take (k + 1)) : t ∈ L.take k ∨ L[k]? = some t := by
  rw [List.take_add_one, List.mem_append] at h
  rcases h with h | h
  · exact .inl h
  · right
    cases e : L[k]? with
    | none => rw [e] at h; simp at h
    | some u => rw [e] at h; simp at h; rw [h]
theorem WJ.skip {l : List In} {V : List (Option KR)} {Q : List Nat} {i k j : Nat} {r0 : KR} {v : Option KR} (h : WJ l V Q i r0 k) (hj : ((flwL l).next i)[k]? = some j) (hv : V[j]? = some v) (hle : LeO v (some ((flwL l).beh i r0))) : WJ l V Q i r0 (k + 1) := by
  refine ⟨h.b, h.q, fun m r hm hq t ht => ?_, h.own⟩
  by_cases e : m = i
  · dsimp only at ht; rw [if_pos e] at ht
    subst e
    rcases takeN_mem ht with ht | ht
    · exact h.d m r hm hq t (by dsimp only; rw [if_pos rfl]; exact ht)
    · rw [hj] at ht
      cases ht
      obtain ⟨r1, h1, _, h3⟩ := h.own
      rw [hm] at h1
      cases h1
      rw [h3 hq]
      exact ⟨v, hv, hle⟩
  · dsimp only at ht; rw [if_neg e] at ht
    exact h.d m r hm hq t (by dsimp only; rw [if_neg e]; exact ht)
theorem WJ.end_ {l : List In} {V : List (Option KR)} {Q : List Nat} {i k : Nat} {r0 : KR} (h : WJ l V Q i r0 k) (hk : ((flwL l).next i).length ≤ k) : WI l V Q := by
  refine ⟨h.b, h.q, fun m r hm hq t ht => h.d m r hm hq t ?_⟩
  by_cases e : m = i
  · subst e
    dsimp only
    rw [if_pos rfl, List.take_of_length_le hk]
    exact ht
  · dsimp only
    rw [if_neg e]
    exact ht
theorem meetO_le {v : Option KR} {b : KR} (hv : ∀ r, v = some r → r.length = b.length) : LeO (some (meetO v b)) v ∧ LeR (meetO v b) b := by
  cases v with
  | none => exact ⟨trivial, LeR.refl _⟩
  | some r => exact ⟨meetR_left (hv r rfl), meetR_right (hv r rfl)⟩
theorem WJ.set {l : List In} {V : List (Option KR)} {Q : List Nat} {i k j : Nat} {r0 : KR} {v : Option KR} (h : WJ l V Q i r0 k) (hj : ((flwL l).next i)[k]? = some j) (hv : V[j]? = some v) (hf : ¬ (flwL l).first j) (hrj : Rch l j) (hb : NumOk ((flwL l).beh i r0)) :
    WJ l (V.set j (some (meetO v ((flwL l).beh i r0)))) (Q ++ [j]) i r0 (k + 1) := by
  obtain ⟨r1, h1, h2, h3⟩ := h.own
  have hjl := (List.getElem?_eq_some_iff.1 hv).1
  have hvl : ∀ r, v = some r → r.length = ((flwL l).beh i r0).length := fun r e => by rw [hb.1]; exact (h.b.num j r (by rw [hv, e])).1
  obtain ⟨m1, m2⟩ := meetO_le hvl
  have hget : ∀ (m : Nat) (r : KR), (V.set j (some (meetO v ((flwL l).beh i r0))))[m]? = some (some r) → (m = j ∧ r = meetO v ((flwL l).beh i r0)) ∨ (m ≠ j ∧ V[m]? = some (some r)) := fun m r hm => by
    rw [List.getElem?_set] at hm
    split at hm
    · rename_i e
      cases hm
      exact .inl ⟨e.symm, rfl⟩
    · rename_i e
      exact .inr ⟨fun e2 => e e2.symm, hm⟩
  have hself : (V.set j (some (meetO v ((flwL l).beh i r0))))[j]? = some (some (meetO v ((flwL l).beh i r0))) := by rw [List.getElem?_set_self hjl]
  have hoth : ∀ m, m ≠ j → (V.set j (some (meetO v ((flwL l).beh i r0))))[m]? = V[m]? := fun m hm => List.getElem?_set_ne (fun e => hm e.symm)
  refine ⟨⟨by rw [List.length_set]; exact h.b.len, fun m r hm => ?_, fun m hm => ?_, fun m r hm => ?_, ?_⟩, fun m hm => ?_, fun m r hm hq t ht => ?_, ?_⟩
  · rcases hget m r hm with ⟨rfl, rfl⟩ | ⟨_, hm⟩
    · exact num_le m2 hb
    · exact h.b.num m r hm
  · rw [hoth m (fun e => hf (e ▸ hm))]
    exact h.b.fst m hm
  · rcases hget m r hm with ⟨rfl, rfl⟩ | ⟨_, hm⟩
    · exact hrj
    · exact h.b.rch m r hm
  · exact h.b.top.set2 (flw_ok l) h1 ((flw_ok l).mono i r1 r0 h2) (List.mem_of_getElem? hj) hv
  · by_cases e : m = j
    · subst e; exact ⟨_, hself⟩
    · rw [hoth m e]
      refine h.q m ?_
      simpa [e] using hm
  · rcases hget m r hm with ⟨rfl, rfl⟩ | ⟨hne, hm2⟩
    · exact absurd (by simp) hq
    · have hq' : m ∉ Q := fun hh => hq (by simp [hh])
      have key : (∃ u, V[t]? = some u ∧ LeO u (some ((flwL l).beh m r))) ∨ (t = j ∧ m = i) := by
        by_cases e : m = i
        · dsimp only at ht; rw [if_pos e] at ht
          rcases takeN_mem ht with ht | ht
          · subst e
            exact .inl (h.d m r hm2 hq' t (by dsimp only; rw [if_pos rfl]; exact ht))
          · rw [hj] at ht
            cases ht
            exact .inr ⟨rfl, e⟩
        · dsimp only at ht; rw [if_neg e] at ht
          exact .inl (h.d m r hm2 hq' t (by dsimp only; rw [if_neg e]; exact ht))
      rcases key with ⟨u, hu, hle⟩ | ⟨rfl, rfl⟩
      · by_cases e : t = j
        · subst e
          rw [hv] at hu
          cases hu
          exact ⟨_, hself, LeO.trans m1 hle⟩
        · exact ⟨u, by rw [hoth t e]; exact hu, hle⟩
      · refine ⟨_, hself, ?_⟩
        rw [h1] at hm2
        cases hm2
        rw [h3 hq']
        exact m2
  · by_cases e : i = j
    · subst e
      rw [h1] at hv
      cases hv
      refine ⟨_, hself, ?_, fun hq => absurd (by simp) hq⟩
      exact LeR.trans m1 h2
    · exact ⟨r1, by rw [hoth i e]; exact h1, h2, fun hq => h3 (fun hh => hq (by simp [hh]))⟩
/-- what is worked out -/
structure KIs (l : List In) (V : List (Option KR)) : Prop where
  b : WB l V
  sol : (flwL l).Sol V
theorem WI.done {l : List In} {V : List (Option KR)} (h : WI l V []) : KIs l V :=
  ⟨h.b, ⟨h.b.len, h.b.fst, fun i r hi j hj => h.d i r hi (by simp) j hj⟩⟩
theorem KIs.unique {l : List In} {U V : List (Option KR)} (hU : KIs l U) (hV : KIs l V) : U = V := Flw.unique hU.sol hV.sol hU.b.top hV.b.top

end Go.Proofs.YtdchmelgaljpfaaGreat

set_option linter.unusedSimpArgs false
set_option linter.unusedVariables false
namespace Go.Proofs.YtdchmelgaljpfaaGreat
open Go.RowKit

end Go.Proofs.YtdchmelgaljpfaaGreat

set_option linter.unusedSimpArgs false
set_option linter.unusedVariables false
namespace Go.Proofs.YtdchmelgaljpfaaGreat
open Go.RowKit

/-! ### the document's results -/
/-- a slot's and a row's own copies -/
def RD (g2 g3 : Nat) (x : In) (r : KR) (w : World) : Prop := Blk w g2 75 (inVals x) ∧ Blk w g3 33 (rowA r)
theorem RD.quiet {g2 g3 : Nat} {x : In} {r : KR} {w w' : World} (h : RD g2 g3 x r w) (hk : Kept (fun _ => False) w w') : RD g2 g3 x r w' := ⟨hk.blk (fun e => e) h.1, hk.blk (fun e => e) h.2⟩
theorem RD.alloc {g2 g3 : Nat} {x : In} {r : KR} {w : World} (h : RD g2 g3 x r w) (o : Obj) : RD g2 g3 x r (w.alloc o) := ⟨h.1.alloc o, h.2.alloc o⟩
theorem valA_kind (v : Option Nat) : (valA v)[0]? = some (.int .i64 (if v.isSome = true then 1 else 0)) := by cases v <;> rfl
theorem valA_num (v : Option Nat) : (valA v)[1]? = some (.int .u64 ((v.getD 0 : Nat) : Int)) := by cases v <;> rfl
theorem RD.kind {g2 g3 : Nat} {x : In} {r : KR} {w : World} (h : RD g2 g3 x r w) {j : Nat} {v : Option Nat} (hv : r[j]? = some v) : w.cell? ⟨g3, j * 4, none⟩ = some (.int .i64 (if v.isSome = true then 1 else 0)) := by
  rw [h.2.cell]
  have := rowA_get hv 0 _ (valA_kind v)
  simpa using this
theorem RD.num {g2 g3 : Nat} {x : In} {r : KR} {w : World} (h : RD g2 g3 x r w) {j : Nat} {v : Option Nat} (hv : r[j]? = some v) : w.cell? ⟨g3, j * 4 + 1, none⟩ = some (.int .u64 ((v.getD 0 : Nat) : Int)) := by
  rw [h.2.cell]
  exact rowA_get hv 1 _ (valA_num v)
end Go.Proofs.YtdchmelgaljpfaaGreat

