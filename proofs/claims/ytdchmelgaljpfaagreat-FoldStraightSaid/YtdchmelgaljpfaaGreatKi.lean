import Derived.Test.YtdchmelgaljpfaaGreatSl
import Derived.Test.YtdchmelgaljpfaaGreatMem
import Derived.Laws.CopyRow
set_option linter.unusedSimpArgs false
set_option linter.unusedVariables false
namespace Go.Proofs.YtdchmelgaljpfaaGreat
open Go.RowKit

/-! ### rows of structs: made, copied -/
section
variable {w w' : World} {E sz : Nat} {v : Value} {css : List (List Value)}
/-- all elements are written anew -/
theorem Sl.over {g n cap : Nat} (h : Sl w E sz (.slice (some ⟨g, 0, none⟩) n cap) css) {L : List (List Value)} (hl : L.length = css.length) (hL : ∀ c ∈ L, c.length = sz) :
    ∃ cur, w.heap[g]? = some (.cells cur E (0, 0)) ∧ L.flatten.length ≤ cur.size ∧ Sl (w.setRow g (L.flatten ++ cur.toList.drop L.flatten.length).toArray) E sz (.slice (some ⟨g, 0, none⟩) n cap) L := by
  have hn := h.len
  subst hn
  rcases h.2.2 with ⟨hv, _⟩ | ⟨g', cap', cur, hv, hb, hg, hnc, hcm, hcs, htake⟩
  · simp at hv
  · simp only [Value.slice.injEq, Option.some.injEq, Addr.mk.injEq, and_true, true_and] at hv
    obtain ⟨rfl, rfl⟩ := hv
    have hfl : L.flatten.length = css.length * sz := by rw [flatten_len hL, hl]
    have hle2 : css.length * sz ≤ cap * sz := Nat.mul_le_mul_right _ hnc
    refine ⟨cur, hg, by omega, hL, ?_, ?_⟩
    · rw [flatten_len hL]
    · refine .inr ⟨g, cap, _, by rw [hl], hb, setRow_heap w g cur _ E _ hg, by rw [hl]; exact hnc, hcm, ?_, ?_⟩
      · simp only [List.size_toArray, List.length_append, List.length_drop, Array.length_toList]
        omega
      · rw [hl, ← hfl]
        simp
end
section
variable {P : Program} {w : World} {ops : Array Oper} {rest : List Oper} {o : Oper} {a : Act} {Q : Exit → Act → World → Prop}
/-- 'make([]T, n)' -/
theorem wpList_makeRow (hgd : o.guard = none) (l c : Operand) (t : TypeId) (hop : o.op = Op.makeSlice t l c) {E : TypeId}
    {i0 : TypeInfo} (z : Value) (sz : Nat) (hz1 : z.cells.size = sz) (hpos : 0 < sz) {by_ : Nat} (ht : P.underlying t = some (.slice E)) (hi : P.info? E = some i0) (hz : i0.zero = some z) (hsz : i0.size = sz) (hby : i0.bytes = by_) (hb8 : by_ ≤ 64)
    (n : Nat) (hl : a.eval l = .int .i64 n) (hc : a.eval c = .int .i64 n) (hn : n ≤ 1099511627776)
    (hK : ∀ w', Sl w' E sz (.slice (some ⟨w.heap.size, 0, none⟩) n n) (List.replicate n z.cells.toList) → Kept (fun _ => False) w w' → wpList P ops Q rest (a.put o.dst (.slice (some ⟨w.heap.size, 0, none⟩) n n)) w') : wpList P ops Q (o :: rest) a w := by
  refine wpList_make_full w hgd l c t hop 0 E i0 z sz ht hi hz hsz .i64 .i64 n n n hl hc rfl rfl ?_ (by unfold maxLen; omega) (Nat.zero_le _) ?_
  · rw [hby]
    exact Nat.le_trans (Nat.mul_le_mul hb8 hn) (by omega)
  intro w' h1 h2
  have hall : ∀ c ∈ List.replicate n z.cells.toList, c.length = sz := fun d hd => by rw [(List.mem_replicate.1 hd).2]; simpa using hz1
  refine hK w' ⟨hall, ?_⟩ (Kept.of_grown (Kept.refl _ w) h2 (fun k hk _ => by cases hk))
  have e : (madeCells z.cells (n * sz)).toList = (List.replicate n z.cells.toList).flatten := by
    apply List.ext_getElem?
    intro i
    by_cases hi : i < n * sz
    · have hd := Nat.div_add_mod i sz
      have hm := Nat.mod_lt i hpos
      have hq : i / sz < n := Nat.div_lt_of_lt_mul (by rw [Nat.mul_comm]; exact hi)
      have he : i = i / sz * sz + i % sz := by rw [Nat.mul_comm]; omega
      have h2 := flatten_get hall (i / sz) (i % sz) hm
      rw [← he] at h2
      rw [h2, List.getElem?_replicate, if_pos hq]
      simp only [Option.bind_some]
      rw [Array.getElem?_toList]
      unfold madeCells
      rw [Array.getElem?_map, Array.getElem?_range]
      rw [if_pos hi]
      simp only [Option.map_some]
      rw [hz1, getElem!_pos z.cells (i % sz) (by omega)]
      rw [List.getElem?_eq_getElem (by simpa [hz1] using hm)]
      simp
    · rw [List.getElem?_eq_none (by simp [madeCells]; omega), List.getElem?_eq_none (by rw [flatten_len hall, List.length_replicate]; omega)]
  rw [e] at h1
  rw [List.length_replicate]
  exact h1
/-- 'copy(d, s)', both of one length -/
theorem wpList_copyRow (hgd : o.guard = none) (d s : Operand) (t : TypeId) (ho : o.op = .call { callee := .builtin .copy, args := #[d, s], argTypes := #[t, t] })
    {E sz : Nat} {i0 : TypeInfo} (ht : P.underlying t = some (.slice E)) (hi : P.info? E = some i0) (hsz : i0.size = sz)
    (g n cap m c : Nat) (css L : List (List Value)) (hd : a.eval d = .slice (some ⟨g, 0, none⟩) n cap) (h : Sl w E sz (.slice (some ⟨g, 0, none⟩) n cap) css) (hl : L.length = css.length) (hL : ∀ c ∈ L, c.length = sz ∧ ∀ y ∈ c, y.oneCell' = true)
    (ad : Addr) (hs : a.eval s = .slice (some ad) n c) (hsrc : ∀ j u, L.flatten[j]? = some u → w.cell? (ad.add j) = some u)
    (hK : ∀ w', Sl w' E sz (.slice (some ⟨g, 0, none⟩) n cap) L → Kept (fun k => k = g) w w' → wpList P ops Q rest (a.put o.dst (.int .i64 n)) w') :
    wpList P ops Q (o :: rest) a w := by
  refine wpList_plain hgd fun K hKK => ?_
  obtain ⟨cur, hg, hfit, hs2⟩ := h.over hl (fun c hc => (hL c hc).1)
  have hn := h.len
  have hfl : L.flatten.length = n * sz := by rw [flatten_len (fun c hc => (hL c hc).1), hl, hn]
  have hlo := run_loadCells_list (P := P) w ad L.flatten hsrc
  have hst := run_storeCells_at P g 0 E L.flatten 0 cur w hg (by simpa using hfit) (fun y hy => by
    obtain ⟨c, hc, hyc⟩ := List.mem_flatten.1 hy
    exact (hL c hc).2 y hyc)
  simp only [Nat.add_zero, List.take_zero, List.nil_append, Nat.zero_add] at hst
  rw [hfl] at hlo
  have hmn : Nat.min n n = n := Nat.min_self n
  have hr : (Builtin.copy_ #[t, t] o.type #[.slice (some ⟨g, 0, none⟩) n cap, .slice (some ad) n c]).run P w = .ok (.int .i64 n) (w.setRow g (L.flatten ++ cur.toList.drop L.flatten.length).toArray) := by
    simp [Builtin.copy_, run_underlying ht, sizeOf, typeInfo, hi, hsz, Builtin.lenOf, Builtin.firstCells, hmn, hlo, hst, goInt]
  unfold Oper.wp
  simp [execOp, ho, resolve, invoke, builtin, hs, hd, hr, Result.andThen]
  rw [List.length_flatten] at hs2
  exact hKK _ _ (hK _ hs2 ⟨rfl, rfl, rfl, by simp, fun k _ hk => setRow_other w g k _ hk⟩)
end

end Go.Proofs.YtdchmelgaljpfaaGreat
