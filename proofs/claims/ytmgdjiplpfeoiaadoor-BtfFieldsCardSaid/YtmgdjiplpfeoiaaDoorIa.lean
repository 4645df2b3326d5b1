import Derived.Test.YtmgdjiplpfeoiaaDoorTy
import Derived.Test.YtmgdjiplpfeoiaaDoorSf
import Derived.Lib.ItoaLen
import Derived.Lib.LaidTab
import Derived.Stop.LaidErr
import Derived.MakeChecks
set_option linter.unusedSimpArgs false
set_option linter.unusedVariables false
namespace Go.Proofs.YtmgdjiplpfeoiaaDoor
open Go.RowKit

/-! ### strconv.Itoa, and the table that it reads -/
def PowTab (w : World) : Prop := Lib.TabIs Tryd.prog w "internal/strconv.uint64pow10" .u64 Lib.pow10Tab
theorem PowTab.kept {w w' : World} (h : PowTab w) (hk : Kept (fun _ => False) w w') : PowTab w' := by
  unfold PowTab Lib.TabIs World.var? at *
  cases hg : Tryd.prog.globalNamed "internal/strconv.uint64pow10" with
  | none => rw [hg] at h; cases h
  | some g =>
    rw [hg] at h
    simp only [Option.bind_some] at h ⊢
    have hlt : g < w.heap.size := by
      rcases Nat.lt_or_ge g w.heap.size with h' | h'
      · exact h'
      · rw [Array.getElem?_eq_none h'] at h; cases h
    rw [hk.block g hlt (fun h => h)]
    exact h
theorem Kept.grow {F : Nat → Prop} {a w : World} (h : Kept F a w) (os : Array Obj) : Kept F a (Go.Sort.grow w os) := by
  refine ⟨h.os, h.tape, h.output, ?_, fun k hk hF => ?_⟩
  · have := h.size
    simp [Go.Sort.grow]
    omega
  · rw [← h.block k hk hF]
    have := h.size
    simp [Go.Sort.grow, Array.getElem?_append, show k < w.heap.size by omega]
theorem itoa_any (n : Int) (h0 : 0 ≤ n) (h1 : n ≤ 1000000) (w : World) (ht : PowTab w) :
    Calls Tryd.prog 25 #[.int .i64 n] w fun e w' => e = .returned (nV (Lib.itoa n)) ∧ Kept (fun _ => False) w w' :=
  (Tryd.strconv_Itoa n (by omega) (by omega) w ht).mono fun e w' ⟨he, k, os, hw⟩ => ⟨he, by rw [hw]; exact ((Kept.refl _ w).drewN k).grow os⟩
theorem itoa_len (n : Int) (h0 : 0 ≤ n) (h1 : n ≤ 1000000) : (Lib.itoa n).length ≤ 21 := Lib.itoa_length_le n (by omega) (by omega)

end Go.Proofs.YtmgdjiplpfeoiaaDoor
