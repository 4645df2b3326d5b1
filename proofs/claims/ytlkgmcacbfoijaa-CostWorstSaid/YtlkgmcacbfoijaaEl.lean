import Derived.Test.YtlkgmcacbfoijaaEk
import Derived.Test.YtlkgmcacbfoijaaQo
set_option linter.unusedSimpArgs false
set_option linter.unusedVariables false
namespace Go.Proofs.Ytlkgmcacbfoijaa
open Go.RowKit

/-! ### what is known -/
def KA : List In := [⟨183, 0, 0, 0, 1⟩, ⟨21, 0, 0, 1, 0⟩, ⟨183, 0, 0, 0, 2⟩, ⟨149, 0, 0, 0, 0⟩]
def KB : List In := [⟨5, 0, 0, -1, 0⟩]
theorem KA_ok : InsOk KA := ⟨by decide, fun x hx => by
  simp only [KA, List.mem_cons, List.not_mem_nil, or_false] at hx
  rcases hx with rfl | rfl | rfl | rfl <;> exact ⟨by decide, by decide, by decide, by decide, by decide⟩⟩
theorem KB_ok : InsOk KB := ⟨by decide, fun x hx => by
  simp only [KB, List.mem_cons, List.not_mem_nil, or_false] at hx
  rcases hx with rfl; exact ⟨by decide, by decide, by decide, by decide, by decide⟩⟩
theorem KA_check : checkI KA = 0 := by decide +kernel
theorem KB_check : checkI KB = 0 := by decide +kernel
theorem KA_cost : costE KA = 0 := by
  refine ok_costE KA_check ?_ (nocall_depth (by decide +kernel))
  rintro ⟨i, hi, x, hx, _, j, hj, hji⟩
  have hi : i < 4 := hi
  rcases (by omega : i = 0 ∨ i = 1 ∨ i = 2 ∨ i = 3) with rfl | rfl | rfl | rfl
  · cases hx
    have hj : j ∈ ([1] : List Int) := hj
    simp at hj; omega
  · cases hx
    have hj : j ∈ ([2, 3] : List Int) := hj
    simp at hj; omega
  · cases hx
    have hj : j ∈ ([3] : List Int) := hj
    simp at hj; omega
  · cases hx
    have hj : j ∈ ([] : List Int) := hj
    simp at hj
theorem KB_cost : costE KB = 240 := by
  have hb : HasBack KB KB.length := ⟨0, by decide, ⟨5, 0, 0, -1, 0⟩, rfl, .zero, 0, by decide +kernel, by decide⟩
  unfold costE
  rw [if_pos KB_check, @if_pos _ (Classical.propDecidable _) hb]
  split <;> rfl
theorem KA_tells {R : RuleP} {V rk : Nat → Nat} (h : Tells R KA V rk) : V 0 = R.a 1 (R.a 1 (R.j (R.a 1 1) 1)) := by
  have r0 : Rch KA 0 := .zero
  have r1 : Rch KA 1 := .step r0 (by decide +kernel)
  have r2 : Rch KA 2 := .step r1 (by decide +kernel)
  have r3 : Rch KA 3 := .step r2 (by decide +kernel)
  have v3 := h.val 3 _ r3 rfl
  have v2 := h.val 2 _ r2 rfl
  have v1 := h.val 1 _ r1 rfl
  have v0 := h.val 0 _ r0 rfl
  have v3 : V 3 = 1 := v3
  have v2 : V 2 = R.a 1 (V 3) := v2
  have v1 : V 1 = R.a 1 (R.j (V 2) (V 3)) := v1
  have v0 : V 0 = R.a 1 (V 1) := v0
  rw [v0, v1, v2, v3]
theorem KA_long {V rk : Nat → Nat} (h : Tells longR KA V rk) : V 0 = 4 := by rw [KA_tells h]; decide +kernel
theorem KA_short {V rk : Nat → Nat} (h : Tells shortR KA V rk) : V 0 = 3 := by rw [KA_tells h]; decide +kernel
theorem KA_ways {V rk : Nat → Nat} (h : Tells waysR KA V rk) : V 0 = 2 := by rw [KA_tells h]; decide +kernel
set_option maxHeartbeats 8000000 in
set_option maxRecDepth 100000 in
theorem known24_any (w : World) : Calls Try.prog 5 #[] w fun e w' => e = .returned (.bool true) ∧ Kept (fun _ => False) w w' := by
  have HOF := Lib.hid (fun W => of17_any [114, 48, 32, 61, 32, 49, 59, 32, 105, 102, 32, 114, 48, 32, 61, 61, 32, 48, 32, 103, 111, 116, 111, 32, 43, 49, 59, 32, 114, 48, 32, 61, 32, 50, 59, 32, 101, 120, 105, 116] W (by decide))
  rw [known_slots] at HOF
  have HL := Lib.hid (fun a c W hI => cLongest_any KA a c W hI KA_ok (fun h => tells_of longR h))
  have HS := Lib.hid (fun a c W hI => cShortest_any KA a c W hI KA_ok (fun h => tells_of shortR h))
  have HW := Lib.hid (fun a c W hI => cWays_any KA a c W hI KA_ok (fun h => tells_of waysR h))
  have HB := Lib.hid (fun a c W hI => cWays_any KB a c W hI KB_ok (fun h => tells_of waysR h))
  rw [KA_cost] at HL HS HW
  rw [KB_cost] at HB
  go_enter Try.func5, Try.ntmps5
  go_wp2_with fail
  refine (HOF.out _).mono ?_
  rintro e w1 ⟨⟨v, g, nm, rfl, hb, hg, hI, ho⟩, hk1⟩
  have hc1 := hb.cell 1
  have hgl := hb.lt
  have hII := hI.ins
  obtain ⟨va, vc, rfl⟩ := Sl.any hI
  have hlen : (List.map icells KA).length = 4 := rfl
  have hII := Lib.hid hII
  have hfld : ∀ W, (Instr.field 44 (.agg #[.slice none 0 0, .slice none 0 0, .slice (some ⟨g, 0, none⟩) 1 1]) 2).run Try.prog W = .ok (.slice (some ⟨g, 0, none⟩) 1 1) W := fun W => by kernel_rfl
  clear hb hI ho HOF
  go_wp2_with fail
  have hI1 : Ins w1 (.slice va KA.length vc) KA := by have := hII.out; exact this
  refine (HL.out va vc w1 hI1).mono ?_
  rintro e w2 ⟨⟨r2, rfl, h2, _⟩, hk2⟩
  obtain ⟨V2, rk2, hT2, rfl⟩ := h2 trivial
  have hv2 := KA_long hT2
  rw [hv2]
  have hI2 := hI1.kept hk2
  have hK2 := hk1.trans hk2 (fun _ _ h => h)
  clear h2 hT2 hv2 hk2 HL hI1
  go_wp2_with fail
  refine (HS.out va vc w2 hI2).mono ?_
  rintro e w3 ⟨⟨r3, rfl, h3, _⟩, hk3⟩
  obtain ⟨V3, rk3, hT3, rfl⟩ := h3 trivial
  have hv3 := KA_short hT3
  rw [hv3]
  have hI3 := hI2.kept hk3
  have hK3 := hK2.trans hk3 (fun _ _ h => h)
  clear h3 hT3 hv3 hk3 HS hI2
  go_wp2_with fail
  refine (HW.out va vc w3 hI3).mono ?_
  rintro e w4 ⟨⟨r4, rfl, h4, _⟩, hk4⟩
  obtain ⟨V4, rk4, hT4, rfl⟩ := h4 trivial
  have hv4 := KA_ways hT4
  rw [hv4]
  have hK4 := hK3.trans hk4 (fun _ _ h => h)
  clear h4 hT4 hv4 hk4 HW hI3
  go_wp2_with fail
  have hB0 : Ins (w4.alloc (.cells #[.int .u8 5, .int .u8 0, .int .u8 0, .int .i16 (-1), .int .i32 0] 25)) (.slice (some ⟨w4.heap.size, 0, none⟩) 1 1) KB := (inS_one w4 ⟨5, 0, 0, -1, 0⟩ rfl).ins
  refine (HB.out _ _ _ hB0).mono ?_
  rintro e w5 ⟨⟨r5, rfl, _, h5⟩, hk5⟩
  have h5 := h5 (by decide)
  subst h5
  have hK5 := (hK4.alloc (.cells #[.int .u8 5, .int .u8 0, .int .u8 0, .int .i16 (-1), .int .i32 0] 25)).trans hk5 (fun _ _ h => h)
  go_wp2_with fail
  go_ret
  exact ⟨rfl, hK5⟩

end Go.Proofs.Ytlkgmcacbfoijaa
