import Derived.Test.YtmgdjiplpfeoiaaDoorPt
import Derived.Test.YtmgdjiplpfeoiaaDoorProg
import Derived.WalkKit
import Derived.ProofKit
import Derived.WalkSpells
import Derived.WalkLawsBesides
import Derived.Carry
import Derived.Lib.Hide
import Derived.Lib.SliceRun
import Derived.Lib.ConvBytes
import Derived.Laws.IdiomStrings
import Derived.Test.YtmgdjiplpfeoiaaDoorMix
import Derived.Test.YtmgdjiplpfeoiaaDoorSl
set_option linter.unusedSimpArgs false
set_option linter.unusedVariables false
namespace Go.Proofs.YtmgdjiplpfeoiaaDoor
open Go.RowKit

/-! ### types in memory -/
abbrev nV (l : List UInt8) : Value := .string ⟨l.toArray⟩
def mbCells (m : Mb) : List Value := [nV m.name, .int .i64 m.type, .int .i64 m.bits]
def Mbs (w : World) (v : Value) (ms : List Mb) : Prop := ∃ a c, v = .slice a ms.length c ∧ ∀ (i : Nat) (m : Mb), ms[i]? = some m → ∃ g off, a = some ⟨g, off, none⟩ ∧ g < w.heap.size ∧ ∀ k u, (mbCells m)[k]? = some u → w.cell? ⟨g, off + i * 3 + k, none⟩ = some u
abbrev tyVals (t : Ty) (v : Value) : Array Value := #[.int .i64 t.kind, nV t.name, .int .i64 t.size, .bool t.signed, .int .i64 t.to, .int .i64 t.count, v]
def Tys (w : World) (v : Value) (l : List Ty) : Prop := ∃ a c, v = .slice a l.length c ∧ l.length ≤ c ∧ ∀ (i : Nat) (t : Ty), l[i]? = some t → ∃ g off mv, a = some ⟨g, off, none⟩ ∧ g < w.heap.size ∧ Mbs w mv t.mem ∧ ∀ k u, (tyVals t mv)[k]? = some u → w.cell? ⟨g, off + i * 7 + k, none⟩ = some u

section
variable {w w' : World} {v : Value} {ms : List Mb} {l : List Ty}
theorem Mbs.kept (h : Mbs w v ms) (hk : Kept (fun _ => False) w w') : Mbs w' v ms := by
  obtain ⟨a, c, hv, hc⟩ := h
  refine ⟨a, c, hv, fun i m hm => ?_⟩
  obtain ⟨g, off, ha, hg, hcell⟩ := hc i m hm
  exact ⟨g, off, ha, Nat.lt_of_lt_of_le hg hk.size, fun k u hu => by rw [hk.cell (p := ⟨g, off + i * 3 + k, none⟩) hg (fun h => h)]; exact hcell k u hu⟩
theorem Tys.kept (h : Tys w v l) (hk : Kept (fun _ => False) w w') : Tys w' v l := by
  obtain ⟨a, c, hv, hlc, hc⟩ := h
  refine ⟨a, c, hv, hlc, fun i t ht => ?_⟩
  obtain ⟨g, off, mv, ha, hg, hm, hcell⟩ := hc i t ht
  exact ⟨g, off, mv, ha, Nat.lt_of_lt_of_le hg hk.size, hm.kept hk, fun k u hu => by rw [hk.cell (p := ⟨g, off + i * 7 + k, none⟩) hg (fun h => h)]; exact hcell k u hu⟩
theorem Mbs.any (h : Mbs w v ms) : ∃ a c, v = .slice a ms.length c := by
  obtain ⟨a, c, hv, _⟩ := h
  exact ⟨a, c, hv⟩
theorem Tys.any (h : Tys w v l) : ∃ a c, v = .slice a l.length c ∧ l.length ≤ c := by
  obtain ⟨a, c, hv, hlc, _⟩ := h
  exact ⟨a, c, hv, hlc⟩
/-- a member's cells -/
theorem Mbs.at_ {a : Option Addr} {n c : Nat} (h : Mbs w (.slice a n c) ms) {i : Nat} {m : Mb} (hm : ms[i]? = some m) : ∃ g off, a = some ⟨g, off, none⟩ ∧ g < w.heap.size ∧
    w.cell? ⟨g, off + i * 3, none⟩ = some (nV m.name) ∧ w.cell? ⟨g, off + i * 3 + 1, none⟩ = some (.int .i64 m.type) ∧ w.cell? ⟨g, off + i * 3 + 2, none⟩ = some (.int .i64 m.bits) := by
  obtain ⟨a', c', hv, hc⟩ := h
  obtain ⟨g, off, ha, hg, hcell⟩ := hc i m hm
  cases hv
  exact ⟨g, off, ha, hg, hcell 0 _ rfl, hcell 1 _ rfl, hcell 2 _ rfl⟩
/-- a type's cells -/
theorem Tys.at_ {a : Option Addr} {n c : Nat} (h : Tys w (.slice a n c) l) {i : Nat} {t : Ty} (ht : l[i]? = some t) : ∃ g off mv, a = some ⟨g, off, none⟩ ∧ g < w.heap.size ∧ Mbs w mv t.mem ∧
    w.cell? ⟨g, off + i * 7, none⟩ = some (.int .i64 t.kind) ∧ w.cell? ⟨g, off + i * 7 + 1, none⟩ = some (nV t.name) ∧ w.cell? ⟨g, off + i * 7 + 2, none⟩ = some (.int .i64 t.size) ∧ w.cell? ⟨g, off + i * 7 + 3, none⟩ = some (.bool t.signed) ∧
    w.cell? ⟨g, off + i * 7 + 4, none⟩ = some (.int .i64 t.to) ∧ w.cell? ⟨g, off + i * 7 + 5, none⟩ = some (.int .i64 t.count) ∧ w.cell? ⟨g, off + i * 7 + 6, none⟩ = some mv := by
  obtain ⟨a', c', hv, _, hc⟩ := h
  obtain ⟨g, off, mv, ha, hg, hm, hcell⟩ := hc i t ht
  cases hv
  exact ⟨g, off, mv, ha, hg, hm, hcell 0 _ rfl, hcell 1 _ rfl, hcell 2 _ rfl, hcell 3 _ rfl, hcell 4 _ rfl, hcell 5 _ rfl, hcell 6 _ rfl⟩
end

/-- a list that isn't too long -/
structure Fit (l : List Ty) : Prop where
  len : l.length ≤ 256
  mem : ∀ t ∈ l, t.mem.length ≤ 64
  name : ∀ t ∈ l, t.name.length ≤ maxLen
  mname : ∀ t ∈ l, ∀ m ∈ t.mem, m.name.length ≤ maxLen
theorem nV_list (l : List UInt8) : (ByteArray.mk l.toArray).toList = l := by
  rw [ByteArray.toList_eq]
theorem nV_size (l : List UInt8) : (ByteArray.mk l.toArray).size = l.length := by simp [ByteArray.size]

/-! ### letters, names, kinds -/
theorem letter_any (c : UInt8) (first : Bool) (w : World) :
    Calls Tryd.prog 76 #[.int .u8 (c.toNat : Int), .bool first] w fun e w' => e = .returned (.bool (letterB c first)) ∧ w = w' := by
  unfold letterB
  cases first
  all_goals
    go_enter Tryd.func76, Tryd.ntmps76
    go_wp2
  all_goals go_ret
  all_goals (refine ⟨?_, rfl⟩)
  all_goals (show Ending.returned (Value.bool _) = Ending.returned (Value.bool _))
  all_goals (refine congrArg (fun b => Ending.returned (Value.bool b)) ?_)
  all_goals first | rfl | (rw [Bool.eq_iff_iff]; simp; try omega)

theorem named_any (k : Int) (w : World) :
    Calls Tryd.prog 69 #[.int .i64 k] w fun e w' => e = .returned (.bool (namedB k)) ∧ w = w' := by
  unfold namedB
  go_enter Tryd.func69, Tryd.ntmps69
  go_wp2
  all_goals go_ret
  all_goals (refine ⟨?_, rfl⟩)
  all_goals (show Ending.returned (Value.bool _) = Ending.returned (Value.bool _))
  all_goals (refine congrArg (fun b => Ending.returned (Value.bool b)) ?_)
  all_goals first | rfl | (rw [Bool.eq_iff_iff]; simp; try omega)

theorem nameB_short {s : List UInt8} (h : s.length < 1 ∨ 32 < s.length) : nameB s = false := by
  unfold nameB
  rcases h with h | h
  · simp
    intro h1
    omega
  · simp
    intro _ h1
    omega
theorem name_any (s : List UInt8) (w : World) (hs : s.length ≤ maxLen) :
    Calls Tryd.prog 70 #[nV s] w fun e w' => e = .returned (.bool (nameB s)) ∧ w = w' := by
  unfold maxLen at hs
  have hsz := nV_size s
  by_cases h1 : s.length < 1
  · rw [nameB_short (.inl h1)]
    go_enter Tryd.func70, Tryd.ntmps70
    go_wp2
    go_ret
    exact ⟨rfl, rfl⟩
  · by_cases h2 : 32 < s.length
    · rw [nameB_short (.inr h2)]
      go_enter Tryd.func70, Tryd.ntmps70
      go_wp2
      go_ret
      exact ⟨rfl, rfl⟩
    · go_enter Tryd.func70, Tryd.ntmps70
      go_wp2
      go_loopw [14] (fun iv wr => ∃ i : Nat, iv = .int .i64 i ∧ i ≤ s.length ∧ ((List.range i).all fun j => letterB (s.getD j 0) (j == 0)) = true ∧ w = wr) (fun iv _ => s.length - (intOf iv).toNat)
      case atStart => exact ⟨0, rfl, Nat.zero_le _, rfl, rfl⟩
      case round =>
        obtain ⟨i, rfl, hi, hall, rfl⟩ := hrel
        by_cases hlt : i < s.length
        case neg =>
          obtain rfl : i = s.length := by omega
          have hN : nameB s = true := by
            unfold nameB
            rw [hall]
            simp
            omega
          go_wp2
          go_ret
          exact ⟨by rw [hN]; rfl, rfl⟩
        case pos =>
          have hcx : (ByteArray.mk s.toArray)[i]'(by rw [hsz]; exact hlt) = s.getD i 0 := by
            rw [List.getD_eq_getElem?_getD, List.getElem?_eq_getElem hlt]
            rfl
          have hi0 : ((i : Int) == 0) = (i == 0) := by
            rw [Bool.eq_iff_iff]
            simp
          have hnx : ((List.range (i + 1)).all fun j => letterB (s.getD j 0) (j == 0)) = letterB (s.getD i 0) (i == 0) := by
            rw [List.range_succ, List.all_append, hall]
            simp
          have HX := Lib.hid hcx
          have H0 := Lib.hid hi0
          clear hcx hi0
          cases hl : letterB (s.getD i 0) (i == 0) with
          | true =>
            have HL := Lib.hid hl
            rw [hl] at hnx
            clear hl
            go_wp2_with fail
            refine (letter_any _ _ _).mono ?_
            rw [HX.out, H0.out, HL.out]
            rintro e w1 ⟨rfl, rfl⟩
            go_wp2_with fail
            exact ⟨⟨i + 1, by go_num, by omega, hnx, trivial⟩, by simp [intOf]; omega⟩
          | false =>
            have HL := Lib.hid hl
            have hN : nameB s = false := by
              cases hn : nameB s with
              | false => rfl
              | true =>
                unfold nameB at hn
                simp only [Bool.and_eq_true, List.all_eq_true, List.mem_range] at hn
                rw [hn.2 i hlt] at hl
                cases hl
            clear hl
            go_wp2_with fail
            refine (letter_any _ _ _).mono ?_
            rw [HX.out, H0.out, HL.out]
            rintro e w1 ⟨rfl, rfl⟩
            go_wp2_with fail
            go_ret
            exact ⟨by rw [hN]; rfl, rfl⟩

end Go.Proofs.YtmgdjiplpfeoiaaDoor
