import Derived.Test.YtdgniibolfahaaaKr
set_option linter.unusedSimpArgs false
set_option linter.unusedVariables false
namespace Go.Proofs.Ytdgniibolfahaaa
open Go.RowKit

/-! ### what is known -/
theorem inS_new (w : World) (l : List In) (hl : l.length ≤ 1000000) : InS (w.alloc (.cells (l.map icells).flatten.toArray 37)) (.slice (some ⟨w.heap.size, 0, none⟩) l.length l.length) l := by
  have hb : (w.alloc (.cells (l.map icells).flatten.toArray 37)).heap[w.heap.size]? = some (.cells (l.map icells).flatten.toArray 37 (0, 0)) := heap_alloc_new w _
  have hfl : (l.map icells).flatten.length = l.length * 5 := by rw [flatten_len (fun c hc => (icells_len l c hc).1), List.length_map]
  refine ⟨fun c hc => (icells_len l c hc).1, by rw [List.length_map]; exact hfl, .inr ⟨w.heap.size, l.length, _, by rw [List.length_map], Nat.zero_le _, hb, by rw [List.length_map]; exact Nat.le_refl _, by unfold maxLen; omega, by simp only [List.size_toArray, hfl], ?_⟩⟩
  rw [List.length_map, ← hfl]
  show List.take _ (l.map icells).flatten = _
  exact List.take_of_length_le (Nat.le_refl _)
def inJ (o : Int) : In := ⟨5, 0, 0, o, 0⟩
def inM (v : Int) : In := ⟨183, 0, 0, 0, v⟩
def inE : In := ⟨149, 0, 0, 0, 0⟩
def L3 : List In := [inJ 0, inM 0, inE]
theorem L3_ok : InsOk L3 := ⟨by decide, fun x hx => by
  simp only [L3, List.mem_cons, List.not_mem_nil, or_false] at hx
  rcases hx with rfl | rfl | rfl <;> exact ⟨by decide, by decide, by decide, by decide, by decide⟩⟩
theorem L3_check : checkI L3 = 0 := by decide +kernel
theorem L3_rch : AllR L3 := by
  have h0 : Rch L3 0 := .zero
  have h1 : Rch L3 1 := .step h0 (by decide +kernel)
  have h2 : Rch L3 2 := .step h1 (by decide +kernel)
  intro i hi _
  have : i < 3 := hi
  rcases (by omega : i = 0 ∨ i = 1 ∨ i = 2) with rfl | rfl | rfl
  · exact h0
  · exact h1
  · exact h2
theorem stay_rep {t : List In} (hv : Va t) (hr : AllR t) : stayL t = List.replicate t.length true := by
  apply List.ext_getElem?
  intro i
  by_cases hi : i < t.length
  · rw [stay_all hv hr i hi, List.getElem?_replicate, if_pos hi]
  · rw [List.getElem?_eq_none (by simp [stayL]; omega), List.getElem?_eq_none (by simp; omega)]
theorem trim_rep {t : List In} (hv : Va t) (hok : InsOk t) (hr : AllR t) : trimL t = trimG t.length t (outL (List.replicate t.length true) t.length) := by
  unfold trimL
  rw [kept_all hv hok (by simp [stayL]) (stay_all hv hr), stay_rep hv hr]
theorem L3_trim : trimO L3 = ([inM 0, inE], [1, 2]) := by
  unfold trimO
  rw [if_pos L3_check, trim_rep (va_of L3_check) L3_ok L3_rch]
  decide +kernel
set_option maxHeartbeats 8000000 in
set_option maxRecDepth 100000 in
theorem known_any (w : World) : Calls Try.prog 6 #[] w fun e w' => e = .returned (.bool true) ∧ Kept (fun _ => False) w w' := by
  have hI := (inS_new w L3 (by decide)).ins
  have HT := Lib.hid (trim_any L3 (some ⟨w.heap.size, 0, none⟩) 3 _ hI L3_ok)
  rw [L3_trim, L3_check] at HT
  have HII := Lib.hid (fun av bv W hA hB => ints_any [1, 2] [1, 2] av bv W hA hB (by decide))
  clear hI
  go_enter Try.func6, Try.ntmps6
  go_wp2_with fail
  refine HT.out.mono ?_
  rintro e w1 ⟨tv, nv, rfl, hA, hN, hk1, ho1, ho2⟩
  have hK1 : Kept (fun _ => False) w w1 := ((Kept.refl _ w).alloc _).trans hk1 (fun _ _ h => h)
  obtain ⟨tg, tc, rfl, htl, htg⟩ := Sl.some_ hA (by decide)
  have c0 : w1.cell? ⟨tg, 0, none⟩ = some (.int .u8 183) := Sl.cell hA (i := 0) (c := icells (inM 0)) rfl (k := 0) (by omega)
  clear hA
  go_wp2_with fail
  refine (HII.out _ _ _ (hN.alloc _) (ints_two w1 1 2)).mono ?_
  rintro e w2 ⟨r, rfl, hr, hk2⟩
  have hr : r = true := hr.2 (by first | rfl | trivial)
  subst hr
  have hK2 : Kept (fun _ => False) w w2 := (hK1.alloc _).trans hk2 (fun _ _ h => h)
  go_wp2_with fail
  go_ret
  exact ⟨rfl, hK2⟩

end Go.Proofs.Ytdgniibolfahaaa
