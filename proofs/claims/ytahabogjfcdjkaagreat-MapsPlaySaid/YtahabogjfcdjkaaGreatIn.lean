import Derived.Test.YtahabogjfcdjkaaGreatBs
import Derived.Test.YtahabogjfcdjkaaGreatOd
set_option linter.unusedSimpArgs false
set_option linter.unusedVariables false
namespace Go.Proofs.YtahabogjfcdjkaaGreat
open Go.RowKit

theorem spot_none {w : World} {a : Addr} {v : Value} (h : w.cell? a = some v) : a.spot = none := by
  unfold World.cell? at h
  split at h
  · split at h
    · cases h
    · rename_i hs; simpa using hs
  · cases h

/-- a slice of bytes that came in -/
def InB (w : World) (a : Option Addr) (l : List UInt8) : Prop := ∀ (i : Nat) (b : UInt8), l[i]? = some b → ∃ g off, a = some ⟨g, off, none⟩ ∧ g < w.heap.size ∧ w.cell? ⟨g, off + i, none⟩ = some (.int .u8 (b.toNat : Int))
theorem InB.kept {w w' : World} {a : Option Addr} {l : List UInt8} (h : InB w a l) (hk : Kept (fun _ => False) w w') : InB w' a l := fun i b hb => by
  obtain ⟨g, off, ha, hg, hc⟩ := h i b hb
  exact ⟨g, off, ha, Nat.lt_of_lt_of_le hg hk.size, by rw [hk.cell (p := ⟨g, off + i, none⟩) hg (fun h => h)]; exact hc⟩

theorem defHash {k v en : Int} (h1 : inB k 1 16 = true) (h2 : inB v 1 256 = true) (h3 : 1 ≤ en) (h4 : en ≤ 64) : defB { (⟨2, k, v, en, false, 0⟩ : Df) with type := 0 } = true := by
  unfold defB kindB2 valB
  unfold inB at *
  simp at *
  omega

end Go.Proofs.YtahabogjfcdjkaaGreat
