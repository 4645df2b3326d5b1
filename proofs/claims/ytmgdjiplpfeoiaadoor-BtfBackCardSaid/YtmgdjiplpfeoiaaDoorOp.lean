import Derived.Test.YtmgdjiplpfeoiaaDoorTk
import Derived.Deep.Slices
import Derived.Deep.Fields
import Derived.ChangeSame
import Derived.OpenShut
import Derived.ChangeSlices
set_option linter.unusedSimpArgs false
set_option linter.unusedVariables false
namespace Go.Proofs.YtmgdjiplpfeoiaaDoor
open Go.ChangeShapes Go.WideShapes Go.ChangeAt Go.RowKit

/-! ### types that came in -/
section
open Go.Deep
variable {H : Type} {enc : TypeId × Value → H} {P : Program} {w : World} {base : Nat} {spare : Nat → Bool} {held : Bool}
theorem open_slice_fields {t e : TypeId} {fs : Array Field} {fuel : Nat} {cs : List Value} {x : DataW H × List MemPlace} (ht : P.underlying t = some (.slice e)) (he : P.underlying e = some (.struct fs))
    (hone : oneCellFields P fs = true) (hC : P.cellsOf e = fs.size) (h : DataW.trod enc P w base spare held fuel t cs = some x) :
    (cs = [.slice none 0 0] ∧ x = (.nil, [])) ∨
    ∃ (a : Addr) (len cap m : Nat) (D : Nat → DataW H) (Pl : Nat → List MemPlace), cs = [.slice (some a) len cap] ∧ base ≤ a.block ∧ len ≤ cap ∧ cap ≤ maxLen ∧ m = (if spare a.block then cap else len) ∧
      x = (.slice ((List.range len).map D) ((List.range (m - len)).map fun j => D (len + j)), MemPlace.row a (m * fs.size) ++ (List.range m).flatMap Pl) ∧
      ∀ i, i < m → ∃ (ys : List (DataW H × List MemPlace)) (n : Nat), D i = .agg (ys.map (·.1)) ∧ Pl i = ys.flatMap (·.2) ∧ ys.length = fs.size ∧
        ∀ (j : Nat) (f : Field), fs[j]? = some f → ∃ (v : Value) (y : DataW H × List MemPlace), w.cell? (a.add (i * fs.size + j)) = some v ∧ ys[j]? = some y ∧ DataW.trod enc P w base spare held n f.type [v] = some y := by
  rcases open_slice ht h with h0 | ⟨a, len, cap, m, n, D, Pl, hcs, hb, hl, hm, hmm, hx, hi⟩
  · exact .inl h0
  · refine .inr ⟨a, len, cap, m, D, Pl, hcs, hb, hl, hm, hmm, by rw [hC] at hx; exact hx, fun i him => ?_⟩
    obtain ⟨cs', hc, ht'⟩ := hi i him
    rw [hC] at hc
    obtain ⟨ys, n', hn', hy, hlen, hyl, hf⟩ := DataW.trod_struct he ht'
    obtain ⟨_, hcl, hat⟩ := World.cells?_some hc
    simp only [Prod.mk.injEq] at hy
    refine ⟨ys, n', hy.1, hy.2, hyl, fun j f hj => ?_⟩
    obtain ⟨ho, hk⟩ := hone_of hone j f hj
    have hjl : j < fs.size := (Array.getElem?_eq_some_iff.1 hj).1
    have hcell := hat j hjl
    have hv : cs'[j]? = some (cs'[j]'(by omega)) := List.getElem?_eq_getElem (by omega)
    have h1 := hf j f hj
    rw [ho, hk] at h1
    have hone' : (cs'.drop j).take 1 = [cs'[j]'(by omega)] := by
      rw [List.drop_eq_getElem_cons (by omega)]
      rfl
    rw [hone'] at h1
    have hys : ys[j]? = some (ys[j]'(by omega)) := List.getElem?_eq_getElem (by omega)
    refine ⟨_, _, ?_, hys, h1.trans hys⟩
    rw [← Go.Deep.add_add, hcell, hv]
end

theorem spot_none' {w : World} {a : Addr} {v : Value} (h : w.cell? a = some v) : a.spot = none := by
  unfold World.cell? at h
  split at h
  · split at h
    · cases h
    · rename_i hs; simpa using hs
  · cases h
theorem str_list (s : ByteArray) : Value.string s = nV s.data.toList := by
  obtain ⟨d⟩ := s
  simp [nV]

section
variable {H : Type} {enc : TypeId × Value → H} {W : World} {base : Nat} {spare : Nat → Bool} {held : Bool}
/-- members that can be read -/
theorem mbs_opened {v : Value} {n : Nat} {y : DataW H × List MemPlace} (h : DataW.trod enc Tryd.prog W base spare held n 36 [v] = some y) :
    ∃ ms : List Mb, Mbs W v ms ∧ ms.length ≤ maxLen ∧ ∀ m ∈ ms, m.name.length ≤ maxLen ∧ -9223372036854775808 ≤ m.bits ∧ m.bits ≤ 9223372036854775807 := by
  rcases open_slice_fields Tryd.underlying36 Tryd.underlying42 (by kernel_rfl) (by kernel_rfl) h with ⟨hcs, _⟩ | ⟨x, l, c, m, D, Pl, hcs, _, hl, hm, hmm, _, hcell⟩
  · simp at hcs
    subst hcs
    exact ⟨[], ⟨none, 0, rfl, fun i m h => by simp at h⟩, Nat.zero_le _, fun m h => by simp at h⟩
  · simp at hcs
    subst hcs
    have hm2 : l ≤ m := by rw [hmm]; split <;> omega
    have one : ∀ i, ∃ s : Mb, i < l → W.cell? (x.add (i * 3 + 0)) = some (nV s.name) ∧ W.cell? (x.add (i * 3 + 1)) = some (.int .i64 s.type) ∧ W.cell? (x.add (i * 3 + 2)) = some (.int .i64 s.bits) ∧ s.name.length ≤ maxLen ∧ -9223372036854775808 ≤ s.bits ∧ s.bits ≤ 9223372036854775807 := by
      intro i
      by_cases hi : i < l
      · obtain ⟨ys, n, _, _, _, hff⟩ := hcell i (by omega)
        obtain ⟨v0, y0, c0, _, t0⟩ := hff 0 _ rfl
        obtain ⟨v1, y1, c1, _, t1⟩ := hff 1 _ rfl
        obtain ⟨v2, y2, c2, _, t2⟩ := hff 2 _ rfl
        obtain ⟨s0, e0, _, hs0⟩ := DataW.trod_string Tryd.underlying9 t0
        obtain ⟨n1, e1, _, _⟩ := DataW.trod_int Tryd.underlying3 t1
        obtain ⟨n2, e2, _, hw2⟩ := DataW.trod_int Tryd.underlying3 t2
        simp only [List.cons.injEq, and_true] at e0 e1 e2
        subst e0 e1 e2
        rw [str_list] at c0
        have hb := Go.bounds_i64 hw2
        exact ⟨⟨s0.data.toList, n1, n2⟩, fun _ => ⟨c0, c1, c2, by rw [Array.length_toList]; exact hs0, hb.1, hb.2⟩⟩
      · exact ⟨⟨[], 0, 0⟩, fun h => absurd h hi⟩
    obtain ⟨f, hff⟩ := Classical.axiomOfChoice one
    refine ⟨(List.range l).map f, ⟨some x, c, by rw [List.length_map, List.length_range], fun i s hs => ?_⟩, by rw [List.length_map, List.length_range]; omega, fun s hs => ?_⟩
    · have hi : i < l := by
        have := (List.getElem?_eq_some_iff.1 hs).1
        simpa using this
      have hfs : f i = s := by simpa [hi] using hs
      subst hfs
      obtain ⟨c0, c1, c2, _⟩ := hff i hi
      obtain ⟨g, off, sp⟩ := x
      obtain rfl : sp = none := by
        obtain ⟨z0, _⟩ := hff 0 (by omega)
        have e0 : (⟨g, off, sp⟩ : Addr).add (0 * 3 + 0) = ⟨g, off, sp⟩ := rfl
        rw [e0] at z0
        exact spot_none' z0
      have hadd : ∀ j, (⟨g, off, none⟩ : Addr).add (i * 3 + j) = ⟨g, off + i * 3 + j, none⟩ := fun j => by unfold Addr.add; split <;> simp_all [Nat.add_assoc]
      rw [hadd] at c0 c1 c2
      refine ⟨g, off, rfl, World.block_lt_of_cell? W _ c0, fun k u hu => ?_⟩
      match k, hu with
      | 0, hu => simp [mbCells] at hu; subst hu; exact c0
      | 1, hu => simp [mbCells] at hu; subst hu; exact c1
      | 2, hu => simp [mbCells] at hu; subst hu; exact c2
      | k + 3, hu => simp [mbCells] at hu
    · simp only [List.mem_map, List.mem_range] at hs
      obtain ⟨i, hi, rfl⟩ := hs
      obtain ⟨_, _, _, h1, h2, h3⟩ := hff i hi
      exact ⟨h1, h2, h3⟩

/-- a list of types that can be read -/
theorem tys_opened {a0 : Option Addr} {len0 cap0 : Nat} {x : DataW H × List MemPlace} {fuel : Nat}
    (hf : DataW.trod enc Tryd.prog W base spare held fuel 22 [.slice a0 len0 cap0] = some x) : ∃ l : List Ty, l.length = len0 ∧ Tys W (.slice a0 l.length cap0) l ∧ Raw l := by
  rcases open_slice_fields Tryd.underlying22 Tryd.underlying38 (by kernel_rfl) (by kernel_rfl) hf with ⟨hcs, _⟩ | ⟨x, l, c, m, D, Pl, hcs, _, hl, hm, hmm, _, hcell⟩
  · simp at hcs
    obtain ⟨rfl, rfl, rfl⟩ := hcs
    exact ⟨[], rfl, ⟨none, 0, rfl, Nat.le_refl _, fun i t h => by simp at h⟩, ⟨Nat.zero_le _, fun t h => by simp at h, fun t h => by simp at h, fun t h => by simp at h⟩⟩
  · simp at hcs
    obtain ⟨rfl, rfl, rfl⟩ := hcs
    have hm2 : len0 ≤ m := by rw [hmm]; split <;> omega
    have one : ∀ i, ∃ t : Ty, i < len0 → ∃ mv, W.cell? (x.add (i * 7 + 0)) = some (.int .i64 t.kind) ∧ W.cell? (x.add (i * 7 + 1)) = some (nV t.name) ∧ W.cell? (x.add (i * 7 + 2)) = some (.int .i64 t.size) ∧ W.cell? (x.add (i * 7 + 3)) = some (.bool t.signed) ∧
        W.cell? (x.add (i * 7 + 4)) = some (.int .i64 t.to) ∧ W.cell? (x.add (i * 7 + 5)) = some (.int .i64 t.count) ∧ W.cell? (x.add (i * 7 + 6)) = some mv ∧ Mbs W mv t.mem ∧ t.name.length ≤ maxLen ∧ ∀ m ∈ t.mem, m.name.length ≤ maxLen ∧ -9223372036854775808 ≤ m.bits ∧ m.bits ≤ 9223372036854775807 := by
      intro i
      by_cases hi : i < len0
      · obtain ⟨ys, n, _, _, _, hff⟩ := hcell i (by omega)
        obtain ⟨v0, y0, c0, _, t0⟩ := hff 0 _ rfl
        obtain ⟨v1, y1, c1, _, t1⟩ := hff 1 _ rfl
        obtain ⟨v2, y2, c2, _, t2⟩ := hff 2 _ rfl
        obtain ⟨v3, y3, c3, _, t3⟩ := hff 3 _ rfl
        obtain ⟨v4, y4, c4, _, t4⟩ := hff 4 _ rfl
        obtain ⟨v5, y5, c5, _, t5⟩ := hff 5 _ rfl
        obtain ⟨v6, y6, c6, _, t6⟩ := hff 6 _ rfl
        obtain ⟨n0, e0, _, _⟩ := DataW.trod_int Tryd.underlying3 t0
        obtain ⟨s1, e1, _, hs1⟩ := DataW.trod_string Tryd.underlying9 t1
        obtain ⟨n2, e2, _, _⟩ := DataW.trod_int Tryd.underlying3 t2
        obtain ⟨b3, e3, _⟩ := DataW.trod_bool Tryd.underlying4 t3
        obtain ⟨n4, e4, _, _⟩ := DataW.trod_int Tryd.underlying3 t4
        obtain ⟨n5, e5, _, _⟩ := DataW.trod_int Tryd.underlying3 t5
        obtain ⟨ms, h6, _, hms⟩ := mbs_opened t6
        simp only [List.cons.injEq, and_true] at e0 e1 e2 e3 e4 e5
        subst e0 e1 e2 e3 e4 e5
        rw [str_list] at c1
        exact ⟨⟨n0, s1.data.toList, n2, b3, n4, n5, ms⟩, fun _ => ⟨v6, c0, c1, c2, c3, c4, c5, c6, h6, by rw [Array.length_toList]; exact hs1, hms⟩⟩
      · exact ⟨⟨0, [], 0, false, 0, 0, []⟩, fun h => absurd h hi⟩
    obtain ⟨f, hff⟩ := Classical.axiomOfChoice one
    have hin : ∀ t ∈ (List.range len0).map f, ∃ i, i < len0 ∧ f i = t := fun t ht => by
      simp only [List.mem_map, List.mem_range] at ht
      exact ht
    refine ⟨(List.range len0).map f, by rw [List.length_map, List.length_range], ⟨_, cap0, rfl, by rw [List.length_map, List.length_range]; omega, fun i t ht => ?_⟩, ⟨by rw [List.length_map, List.length_range]; omega, fun t ht => ?_, fun t ht m hm => ?_, fun t ht m hm => ?_⟩⟩
    · have hi : i < len0 := by
        have := (List.getElem?_eq_some_iff.1 ht).1
        simpa using this
      have hfs : f i = t := by simpa [hi] using ht
      subst hfs
      obtain ⟨mv, c0, c1, c2, c3, c4, c5, c6, h6, _⟩ := hff i hi
      obtain ⟨g, off, sp⟩ := x
      obtain rfl : sp = none := by
        obtain ⟨_, z0, _⟩ := hff 0 (by omega)
        have e0 : (⟨g, off, sp⟩ : Addr).add (0 * 7 + 0) = ⟨g, off, sp⟩ := rfl
        rw [e0] at z0
        exact spot_none' z0
      have hadd : ∀ j, (⟨g, off, none⟩ : Addr).add (i * 7 + j) = ⟨g, off + i * 7 + j, none⟩ := fun j => by unfold Addr.add; split <;> simp_all [Nat.add_assoc]
      rw [hadd] at c0 c1 c2 c3 c4 c5 c6
      refine ⟨g, off, mv, rfl, World.block_lt_of_cell? W _ c0, h6, fun k u hu => ?_⟩
      match k, hu with
      | 0, hu => simp [tyVals] at hu; subst hu; exact c0
      | 1, hu => simp [tyVals] at hu; subst hu; exact c1
      | 2, hu => simp [tyVals] at hu; subst hu; exact c2
      | 3, hu => simp [tyVals] at hu; subst hu; exact c3
      | 4, hu => simp [tyVals] at hu; subst hu; exact c4
      | 5, hu => simp [tyVals] at hu; subst hu; exact c5
      | 6, hu => simp [tyVals] at hu; subst hu; exact c6
      | k + 7, hu => simp [tyVals] at hu
    · obtain ⟨i, hi, rfl⟩ := hin t ht
      obtain ⟨_, _, _, _, _, _, _, _, _, h8, _⟩ := hff i hi
      exact h8
    · obtain ⟨i, hi, rfl⟩ := hin t ht
      obtain ⟨_, _, _, _, _, _, _, _, _, _, h9⟩ := hff i hi
      exact (h9 m hm).1
    · obtain ⟨i, hi, rfl⟩ := hin t ht
      obtain ⟨_, _, _, _, _, _, _, _, _, _, h9⟩ := hff i hi
      exact (h9 m hm).2
end

end Go.Proofs.YtmgdjiplpfeoiaaDoor
