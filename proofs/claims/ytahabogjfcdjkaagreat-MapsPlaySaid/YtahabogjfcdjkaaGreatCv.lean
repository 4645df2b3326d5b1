import Derived.Test.YtahabogjfcdjkaaGreatKno
import Derived.Test.YtahabogjfcdjkaaGreatIt
import Derived.Lib.ConvBytes
import Derived.Lib.BytesEntry
import Derived.Lib.Bytealg
set_option linter.unusedSimpArgs false
set_option linter.unusedVariables false
namespace Go.Proofs.YtahabogjfcdjkaaGreat
open Go.RowKit

/-- '[]byte(s)': a new row, a draw -/
theorem run_bytes_sV {P : Program} (w : World) {src dst e : TypeId} (hs : P.underlying src = some .string) (hd : P.underlying dst = some (.slice e)) (he : P.underlying e = some (.int .u8)) (l : List UInt8) :
    ∃ c w', (convert src dst (sV l)).run P w = .ok (.slice (some ⟨w.heap.size, 0, none⟩) l.length c) w' ∧ By w' (.slice (some ⟨w.heap.size, 0, none⟩) l.length c) l ∧ Kept (fun _ => False) w w' ∧ w.heap.size < w'.heap.size := by
  have hrun := Lib.run_convert_string_bytes (P := P) w src dst e ⟨l.toArray⟩ hs hd he
  have hsz : (ByteArray.mk l.toArray).size = l.length := by simp [ByteArray.size]
  rw [hsz] at hrun
  have hsz2 := Lib.bytesWorld_size w e ⟨l.toArray⟩
  refine ⟨_, _, hrun, .inr ⟨w.heap.size, 0, _, rfl, by omega, ?_, fun j u hu => ?_⟩, ⟨rfl, rfl, rfl, by omega, fun k hk _ => Lib.bytesWorld_at_old w e _ k hk⟩, by omega⟩
  · exact grownCap_ge w l.length 0 e
  · have hj : j < l.length := by have := (List.getElem?_eq_some_iff.1 hu).1; rwa [bcells_len] at this
    rw [Nat.zero_add, Lib.bytesWorld_cell w e _ j (by rw [hsz]; exact hj)]
    simp [bcells, hj] at hu
    rw [← hu]
    simp [hj]

theorem run_bytesOf {P : Program} {w : World} {v : Value} {l : List UInt8} (h : By w v l) : (Extern.Bytes.bytesOf v).run P w = .ok ⟨l.toArray⟩ w := by
  rcases h with ⟨c, rfl, rfl⟩ | ⟨b, off, c, rfl, _, _, hc⟩
  · rfl
  · have := Lib.run_loadBytesX (P := P) w (l.map fun b => (b.toNat : Int)) ⟨b, off, none⟩ .empty (fun j x hx => by
      rw [add_n]
      refine hc j _ ?_
      simp only [List.getElem?_map] at hx
      simp only [bcells, List.getElem?_map]
      cases hl : l[j]? with
      | none => rw [hl] at hx; cases hx
      | some b => rw [hl] at hx; simp at hx; simp [hx])
    have e : Lib.bytesOf (l.map fun b => (b.toNat : Int)) = l := by
      unfold Lib.bytesOf
      rw [List.map_map]
      conv => rhs; rw [← List.map_id l]
      refine List.map_congr_left fun b _ => ?_
      simp
    rw [e, List.length_map] at this
    simpa [Extern.Bytes.bytesOf] using this

theorem run_compareBy {P : Program} {w : World} {a b : Value} {l k : List UInt8} (ha : By w a l) (hb : By w b k) :
    (Extern.BytealgCompare.compare #[a, b]).run P w = .ok (.int .i64 (Lib.compareBytes l k)) w := by
  change Sem.run P (do pure (goInt (Extern.BytealgCompare.cmp (← Extern.Bytes.bytesOf a) (← Extern.Bytes.bytesOf b)))) w = _
  simp only [Sem.run_bind, Sem.run_pure, Result.andThen, run_bytesOf ha, run_bytesOf hb]
  rw [Lib.cmp_eq]
  rfl

set_option maxRecDepth 100000 in
set_option maxHeartbeats 1000000 in
theorem compare_any (a b : Value) (l k : List UInt8) (w : World) (ha : By w a l) (hb : By w b k) :
    Calls Tryz.prog 60 #[a, b] w fun e w' => e = .returned (.int .i64 (Lib.compareBytes l k)) ∧ w' = w := by
  have hrun := run_compareBy (P := Tryz.prog) ha hb
  go_enter Tryz.func60, Tryz.ntmps60
  go_wp2_with fail
  rw [run_callFunc_extern (P := Tryz.prog) (fn := Tryz.f67) (e := Extern.BytealgCompare.compare) (by kernel_rfl) (by kernel_rfl) (by kernel_rfl) (by kernel_rfl) (by kernel_rfl), hrun]
  simp only [Result.andThen]
  rw [Oper.upon_value]
  go_wp2_with fail
  go_ret
  exact ⟨rfl, rfl⟩

end Go.Proofs.YtahabogjfcdjkaaGreat
