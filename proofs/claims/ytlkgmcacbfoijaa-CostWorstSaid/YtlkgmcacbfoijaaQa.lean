import Derived.Test.YtlkgmcacbfoijaaMem
import Derived.Test.YtlkgmcacbfoijaaSl
import Derived.Laws.Strings
import Derived.Laws.IdiomStrings
set_option linter.unusedSimpArgs false
set_option linter.unusedVariables false
namespace Go.Proofs.Ytlkgmcacbfoijaa
open Go.RowKit

/-! ### strings -/
abbrev stV (l : List UInt8) : Value := .string ⟨l.toArray⟩
theorem st_index {l : List UInt8} {i : Nat} {b : UInt8} (h : l[i]? = some b) (w : World) : (Instr.index 9 (.string ⟨l.toArray⟩) (.int .i64 i)).run Try.prog w = .ok (.int .u8 b.toNat) w := by
  have hi := (List.getElem?_eq_some_iff.1 h).1
  have hb := (List.getElem?_eq_some_iff.1 h).2
  rw [run_index_string w 9 ⟨l.toArray⟩ .i64 i Try.underlying9]
  have hs : (ByteArray.mk l.toArray).size = l.length := by simp [ByteArray.size]
  rw [dif_pos ⟨by omega, by rw [hs]; omega⟩]
  have e : ((⟨l.toArray⟩ : ByteArray)[((i : Int)).toNat]'(by rw [hs]; simpa using hi)) = b := by
    rw [← hb]
    simp [ByteArray.getElem_eq_getElem_data]
  rw [e]
theorem ba_extract (l : List UInt8) (m n : Nat) : (ByteArray.mk l.toArray).extract m n = ⟨((l.take n).drop m).toArray⟩ := by
  apply ByteArray.ext
  rw [ByteArray.data_extract]
  simp only [List.extract_toArray]
  congr 1
  rw [List.extract_eq_take_drop, List.drop_take]
theorem ba_size (l : List UInt8) : (ByteArray.mk l.toArray).size = l.length := by simp [ByteArray.size]
theorem st_pre {l : List UInt8} {n : Nat} (h : n ≤ l.length) (w : World) : (Instr.sliceAt 9 (.string ⟨l.toArray⟩) none (some (.int .i64 n)) none).run Try.prog w = .ok (stV (l.take n)) w := by
  simp [Instr.sliceAt, Instr.slice, run_underlying Try.underlying9, Instr.sliceBounds, run_sliceBound, ba_size, h, ba_extract, asIntOf, Instr.sliceBound]
theorem st_post {l : List UInt8} {n : Nat} (h : n ≤ l.length) (w : World) : (Instr.sliceAt 9 (.string ⟨l.toArray⟩) (some (.int .i64 n)) none none).run Try.prog w = .ok (stV (l.drop n)) w := by
  simp [Instr.sliceAt, Instr.slice, run_underlying Try.underlying9, Instr.sliceBounds, run_sliceBound, ba_size, h, ba_extract, asIntOf, Instr.sliceBound]
theorem st_cut {l : List UInt8} {m n : Nat} (h : m ≤ n) (h2 : n ≤ l.length) (w : World) : (Instr.sliceAt 9 (.string ⟨l.toArray⟩) (some (.int .i64 m)) (some (.int .i64 n)) none).run Try.prog w = .ok (stV ((l.take n).drop m)) w := by
  simp [Instr.sliceAt, Instr.slice, run_underlying Try.underlying9, Instr.sliceBounds, run_sliceBound, ba_size, h, h2, ba_extract, asIntOf, Instr.sliceBound]

end Go.Proofs.Ytlkgmcacbfoijaa
