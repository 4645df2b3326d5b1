import Derived.Test.YtdchmelgaljpfaaGreatZad
import Derived.Laws.IdiomArrays
set_option linter.unusedSimpArgs false
set_option linter.unusedVariables false
namespace Go.Proofs.YtdchmelgaljpfaaGreat
open Go.ChangeShapes Go.WideShapes Go.ChangeAt Go.RowKit

/-! ### four numbers that came in, as an array by value -/
theorem okWide_arr {P : Program} {w : World} {r : Reach} {base : Nat} {t e : TypeId} {n : Nat} {v : Value} (ht : P.underlying t = some (.array n e)) (h : Value.okWide P w r base t v) : ∃ cs, v = .agg cs ∧ cs.size = P.cellsOf t := by
  simp only [Value.okWide, ht] at h
  obtain ⟨cs, h1, h2, _⟩ := h
  exact ⟨cs, h1, h2⟩
theorem arr4_opened {H : Type} {enc : TypeId × Value → H} {W : World} {base : Nat} {spare : Nat → Bool} {held : Bool} {cs : Array Value} {x : DataW H × List MemPlace} {fuel : Nat} (hsz : cs.size = 4)
    (hf : DataW.trod enc Tryz.prog W base spare held fuel 71 cs.toList = some x) : ∃ a b c d : Int, cs = #[.int .i32 a, .int .i32 b, .int .i32 c, .int .i32 d] ∧ ∀ v ∈ [a, b, c, d], -2147483648 ≤ v ∧ v ≤ 2147483647 := by
  obtain ⟨l, rfl⟩ : ∃ l : List Value, cs = l.toArray := ⟨cs.toList, by simp⟩
  have hl : l.length = 4 := by simpa using hsz
  match l, hl with
  | [c0, c1, c2, c3], _ =>
    obtain ⟨y0, y1, y2, y3, n, _, t0, t1, t2, t3⟩ := trod_array4 Tryz.underlying71 (by kernel_rfl) hf
    obtain ⟨n0, e0, _, w0⟩ := DataW.trod_int Tryz.underlying21 t0
    obtain ⟨n1, e1, _, w1⟩ := DataW.trod_int Tryz.underlying21 t1
    obtain ⟨n2, e2, _, w2⟩ := DataW.trod_int Tryz.underlying21 t2
    obtain ⟨n3, e3, _, w3⟩ := DataW.trod_int Tryz.underlying21 t3
    simp only [List.cons.injEq, and_true] at e0 e1 e2 e3
    subst e0 e1 e2 e3
    have b0 := Go.bounds_i32 w0
    have b1 := Go.bounds_i32 w1
    have b2 := Go.bounds_i32 w2
    have b3 := Go.bounds_i32 w3
    refine ⟨n0, n1, n2, n3, rfl, fun v hv => ?_⟩
    simp only [List.mem_cons, List.not_mem_nil, or_false] at hv
    rcases hv with rfl | rfl | rfl | rfl <;> assumption

end Go.Proofs.YtdchmelgaljpfaaGreat
