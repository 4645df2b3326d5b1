import Derived.Test.YtahabogjfcdjkaaGreatRw
set_option linter.unusedSimpArgs false
set_option linter.unusedVariables false
namespace Go.Proofs.YtahabogjfcdjkaaGreat
open Go.RowKit

theorem tailU8 (g n cap i : Nat) (hi : i ≤ n) : ∃ ad, (∀ w : World, (Instr.sliceAt 39 (.slice (some ⟨g, 0, none⟩) n cap) (some (.int .i64 i)) none none).run Tryz.prog w = .ok (.slice (some ad) (n - i) (cap - i)) w) ∧ (i < cap → ad = ⟨g, i, none⟩) := by
  obtain ⟨i0, hI0, hI1, hI2, hI3⟩ := info_parts infoU8
  refine ⟨if cap = i then ⟨g, 0, none⟩ else ⟨g, i, none⟩, fun w => ?_, fun h => if_neg (by omega)⟩
  simp [Instr.sliceAt, Instr.slice, run_underlying Tryz.underlying39, Instr.sliceBounds, run_sliceBound, sizeOf, typeInfo, hI0, hI2, hi]
  split <;> simp [add_n]
theorem tailNil : ∀ w : World, (Instr.sliceAt 39 (.slice none 0 0) (some (.int .i64 0)) none none).run Tryz.prog w = .ok (.slice none 0 0) w := fun w => by kernel_rfl

set_option maxHeartbeats 1000000 in
set_option maxRecDepth 100000 in
theorem set_in (p : Nat) (v : Value) (L : List Rg) (i at_ : Nat) (bv : Value) (l : List UInt8) (w : World) (h : IsMem w p v L) {r : Rg} (hi : L[i]? = some r) (hb : By w bv l) (hle : at_ + l.length ≤ r.b.length) (hpos : 0 < r.b.length) :
    Calls Tryz.prog 43 #[.pointer (some ⟨p, 0, none⟩), .int .i64 ((i : Int) + 1), .int .i64 at_, bv] w fun e w' => e = .returned (.bool true) ∧
      IsMem w' p v (L.set i { r with b := r.b.take at_ ++ l ++ r.b.drop (at_ + l.length) }) ∧ blM p v (L.set i { r with b := r.b.take at_ ++ l ++ r.b.drop (at_ + l.length) }) = blM p v L ∧ Kept (fun k => r.bv.ownBlock = some k) w w' := by
  obtain ⟨i0, hI0, hI1, hI2, hI3⟩ := info_parts infoU8
  have hm := h.rg r (List.mem_of_getElem? hi)
  have hl6 := hm.2.2
  have hnew : (r.b.take at_ ++ l ++ r.b.drop (at_ + l.length)).length = r.b.length := by simp; omega
  have hfin : ∀ w', Bs w' r.bv (r.b.take at_ ++ l ++ r.b.drop (at_ + l.length)) → Kept (fun k => r.bv.ownBlock = some k) w w' →
      IsMem w' p v (L.set i { r with b := r.b.take at_ ++ l ++ r.b.drop (at_ + l.length) }) ∧ blM p v (L.set i { r with b := r.b.take at_ ++ l ++ r.b.drop (at_ + l.length) }) = blM p v L ∧ Kept (fun k => r.bv.ownBlock = some k) w w' := fun w' h1 h2 => by
    have := h.setB hi h2 h1 (by rw [hnew]; exact hl6)
    exact ⟨this.1, this.2, h2⟩
  have HF := Lib.hid hfin
  have HI := Lib.hid hi
  clear hfin hi hnew
  have hrc := hm.1.cell
  have hrb := hm.2.1
  have hta := taRg
  obtain ⟨A, c, hbv⟩ := hb.any
  obtain ⟨g, cap, hv, hcap, hg⟩ := hm.2.1.some_ (by simpa using hpos)
  simp only [List.length_map] at hcap hv
  obtain ⟨ad, hsl, had⟩ := tailU8 g r.b.length cap at_ (by omega)
  rw [hv] at hrb
  simp only [Rg.cells, hv] at hrc
  have hfrz := hm.1.frozen
  subst hbv
  have hdv : (∃ A c, Value.slice (some ad) (r.b.length - at_) (cap - at_) = .slice A (r.b.length - at_) c) ∧ (at_ < r.b.length → ∃ g' cap', Value.slice (some ⟨g, 0, none⟩) r.b.length cap = .slice (some ⟨g', 0, none⟩) r.b.length cap' ∧ ∃ c, Value.slice (some ad) (r.b.length - at_) (cap - at_) = .slice (some ⟨g', at_, none⟩) (r.b.length - at_) c) :=
    ⟨⟨_, _, rfl⟩, fun h => ⟨g, cap, rfl, cap - at_, by rw [had (by omega)]⟩⟩
  have HV := Lib.hid hv
  have HDV := Lib.hid hdv
  clear hv hdv had
  go_enter Tryz.func43, Tryz.ntmps43
  go_wp2_with (first
    | (go_at_call 39; refine (at_in p v L i w h HI.out).mono ?_; rintro e w1 ⟨rfl, rfl⟩)
    | (refine wpList_copyBy (w := w) rfl (.tmp 50) (.tmp 51) 39 rfl Tryz.underlying39 hI0 hI2 (.slice (some ⟨g, 0, none⟩) r.b.length cap) (.slice A l.length c) r.b l at_ _ rfl rfl hrb hb hle HDV.out ?_; intro w5 hS5 hk5))
  go_ret
  exact ⟨rfl, HF.out _ (by rw [HV.out]; exact hS5) (by rw [HV.out]; exact hk5)⟩

end Go.Proofs.YtahabogjfcdjkaaGreat
