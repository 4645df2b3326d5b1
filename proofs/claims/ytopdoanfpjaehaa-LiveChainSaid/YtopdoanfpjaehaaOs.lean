import Derived.Test.YtopdoanfpjaehaaOi
set_option linter.unusedSimpArgs false
set_option linter.unusedVariables false
namespace Go.Proofs.Ytopdoanfpjaehaa
open Go.ChangeShapes Go.WideShapes Go.ChangeAt Go.RowKit

/-! ### one slot that came in, by value -/
section
open Go.Deep
variable {H : Type} {enc : TypeId × Value → H} {P : Program} {w : World} {base : Nat} {spare : Nat → Bool} {held : Bool}
theorem struct_cells {e : TypeId} {fs : Array Field} {fuel : Nat} {cs : List Value} {x : DataW H × List MemPlace} (he : P.underlying e = some (.struct fs))
    (hone : oneCellFields P fs = true) (hC : cs.length = fs.size) (h : DataW.trod enc P w base spare held fuel e cs = some x) :
    ∀ (j : Nat) (f : Field), fs[j]? = some f → ∃ (v : Value) (y : DataW H × List MemPlace) (n : Nat), cs[j]? = some v ∧ DataW.trod enc P w base spare held n f.type [v] = some y := by
  obtain ⟨ys, n', hn', hy, hlen, hyl, hf⟩ := DataW.trod_struct he h
  intro j f hj
  obtain ⟨ho, hk⟩ := hone_of hone j f hj
  have hjl : j < fs.size := (Array.getElem?_eq_some_iff.1 hj).1
  have hv : cs[j]? = some (cs[j]'(by omega)) := List.getElem?_eq_getElem (by omega)
  have h1 := hf j f hj
  rw [ho, hk] at h1
  have hone' : (cs.drop j).take 1 = [cs[j]'(by omega)] := by
    rw [List.drop_eq_getElem_cons (by omega)]
    rfl
  rw [hone'] at h1
  have hys : ys[j]? = some (ys[j]'(by omega)) := List.getElem?_eq_getElem (by omega)
  exact ⟨_, _, _, hv, h1.trans hys⟩
end
theorem in_opened {H : Type} {enc : TypeId × Value → H} {W : World} {base : Nat} {spare : Nat → Bool} {held : Bool} {cs : Array Value} {x : DataW H × List MemPlace} {fuel : Nat} (hsz : cs.size = 5)
    (hf : DataW.trod enc Try.prog W base spare held fuel 26 cs.toList = some x) : ∃ s : In, cs = inVals s ∧ InOk s := by
  have hff := struct_cells Try.underlying26 (by kernel_rfl) (by rw [Array.length_toList, hsz]; rfl) hf
  obtain ⟨v0, y0, m0, c0, t0⟩ := hff 0 _ rfl
  obtain ⟨v1, y1, m1, c1, t1⟩ := hff 1 _ rfl
  obtain ⟨v2, y2, m2, c2, t2⟩ := hff 2 _ rfl
  obtain ⟨v3, y3, m3, c3, t3⟩ := hff 3 _ rfl
  obtain ⟨v4, y4, m4, c4, t4⟩ := hff 4 _ rfl
  obtain ⟨n0, e0, _, w0⟩ := DataW.trod_int Try.underlying5 t0
  obtain ⟨n1, e1, _, w1⟩ := DataW.trod_int Try.underlying5 t1
  obtain ⟨n2, e2, _, w2⟩ := DataW.trod_int Try.underlying5 t2
  obtain ⟨n3, e3, _, w3⟩ := DataW.trod_int Try.underlying24 t3
  obtain ⟨n4, e4, _, w4⟩ := DataW.trod_int Try.underlying21 t4
  simp only [List.cons.injEq, and_true] at e0 e1 e2 e3 e4
  subst e0 e1 e2 e3 e4
  refine ⟨⟨n0, n1, n2, n3, n4⟩, ?_, ?_⟩
  · apply Array.ext_getElem?
    intro i
    simp only [Array.getElem?_toList] at c0 c1 c2 c3 c4
    by_cases hi : i < 5
    · rcases (by omega : i = 0 ∨ i = 1 ∨ i = 2 ∨ i = 3 ∨ i = 4) with rfl | rfl | rfl | rfl | rfl
      · exact c0
      · exact c1
      · exact c2
      · exact c3
      · exact c4
    · rw [Array.getElem?_eq_none (by omega), Array.getElem?_eq_none (by show (5 : Nat) ≤ i; omega)]
  · have b0 := Go.bounds_u8 w0
    have b1 := Go.bounds_u8 w1
    have b2 := Go.bounds_u8 w2
    have b3 := Go.bounds_i16 w3
    have b4 := Go.bounds_i32 w4
    exact ⟨by simp only; omega, by simp only; omega, by simp only; omega, by simp only; omega, by simp only; omega⟩

/-! ### bytes that came in, one by one -/
def Rd8 (w : World) (v : Value) (l : List Int) : Prop := ∃ a c, v = .slice a l.length c ∧ l.length ≤ c ∧ ∀ (i : Nat) (x : Int), l[i]? = some x → ∃ g off, a = some ⟨g, off, none⟩ ∧ g < w.heap.size ∧ w.cell? ⟨g, off + i, none⟩ = some (.int .u8 x)
theorem Rd8.kept {w w' : World} {v : Value} {l : List Int} (h : Rd8 w v l) (hk : Kept (fun _ => False) w w') : Rd8 w' v l := by
  obtain ⟨a, c, rfl, hc, hx⟩ := h
  refine ⟨a, c, rfl, hc, fun i x hi => ?_⟩
  obtain ⟨g, off, rfl, hg, hcell⟩ := hx i x hi
  exact ⟨g, off, rfl, Nat.lt_of_lt_of_le hg hk.size, by rw [hk.cell hg (fun h => h)]; exact hcell⟩
theorem Rd8.at_ {w : World} {a : Option Addr} {n c : Nat} {l : List Int} (h : Rd8 w (.slice a n c) l) {i : Nat} {x : Int} (hx : l[i]? = some x) : ∃ g off, a = some ⟨g, off, none⟩ ∧ g < w.heap.size ∧ w.cell? ⟨g, off + i, none⟩ = some (.int .u8 x) := by
  obtain ⟨a', c', e, _, hh⟩ := h
  obtain ⟨rfl, -, rfl⟩ := Value.slice.inj e
  exact hh i x hx
theorem rd8_opened {H : Type} {enc : TypeId × Value → H} {W : World} {base : Nat} {spare : Nat → Bool} {held : Bool} {a0 : Option Addr} {len0 cap0 : Nat} {x : DataW H × List MemPlace} {fuel : Nat}
    (hf : DataW.trod enc Try.prog W base spare held fuel 22 [.slice a0 len0 cap0] = some x) : ∃ l : List Int, l.length = len0 ∧ len0 ≤ maxLen ∧ Rd8 W (.slice a0 l.length cap0) l ∧ ∀ x ∈ l, 0 ≤ x ∧ x ≤ 255 := by
  rcases open_ints Try.underlying22 Try.underlying5 (by kernel_rfl) hf with ⟨hcs, _⟩ | ⟨x, l, c, zs, hcs, _, hl, hm, hz, _, hcell, hwz⟩
  · simp at hcs
    obtain ⟨rfl, rfl, rfl⟩ := hcs
    exact ⟨[], rfl, Nat.zero_le _, ⟨none, 0, rfl, Nat.le_refl _, fun i x hx => by simp at hx⟩, fun x hx => by cases hx⟩
  · simp at hcs
    obtain ⟨rfl, rfl, rfl⟩ := hcs
    have hzc : len0 ≤ zs.length := by rw [hz]; split <;> omega
    have htl : (zs.take len0).length = len0 := by rw [List.length_take]; omega
    refine ⟨zs.take len0, htl, by omega, ⟨some x, cap0, by rw [htl], by rw [htl]; exact hl, fun i u hu => ?_⟩, fun u hu => ?_⟩
    · have hi := (List.getElem?_eq_some_iff.1 hu).1
      rw [htl] at hi
      rw [List.getElem?_take, if_pos hi] at hu
      have hc := hcell i (by omega)
      rw [List.getD_eq_getElem?_getD, hu] at hc
      obtain ⟨g, off, sp⟩ := x
      obtain rfl : sp = none := by
        have h0 := hcell 0 (by omega)
        have e0 : (⟨g, off, sp⟩ : Addr).add 0 = ⟨g, off, sp⟩ := rfl
        rw [e0] at h0
        exact spot_none h0
      have hadd : (⟨g, off, none⟩ : Addr).add i = ⟨g, off + i, none⟩ := by unfold Addr.add; split <;> simp_all
      rw [hadd] at hc
      exact ⟨g, off, rfl, World.block_lt_of_cell? W _ hc, hc⟩
    · have := Go.bounds_u8 (hwz u (List.mem_of_mem_take hu))
      omega

end Go.Proofs.Ytopdoanfpjaehaa
