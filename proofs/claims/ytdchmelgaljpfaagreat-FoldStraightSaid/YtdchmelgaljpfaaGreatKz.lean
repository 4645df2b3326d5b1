import Derived.Test.YtdchmelgaljpfaaGreatKi
import Derived.Test.YtdchmelgaljpfaaGreatJd
import Derived.Deep.AppendLies
set_option linter.unusedSimpArgs false
set_option linter.unusedVariables false
namespace Go.Proofs.YtdchmelgaljpfaaGreat
open Go.RowKit

/-! ### slots that are being made -/
def icells (x : In) : List Value := [.int .u8 x.op, .int .u8 x.dst, .int .u8 x.src, .int .i16 x.off, .int .i32 x.imm]
abbrev InS (w : World) (v : Value) (l : List In) : Prop := Sl w 75 5 v (l.map icells)
theorem infoIn : (Tryz.prog.info? 75).map (fun i => (i.zero, i.size, i.bytes)) = some (some (.agg #[.int .u8 0, .int .u8 0, .int .u8 0, .int .i16 0, .int .i32 0]), 5, 12) := by kernel_rfl
theorem icells_len (l : List In) : ∀ c ∈ l.map icells, c.length = 5 ∧ ∀ y ∈ c, y.oneCell' = true := fun c hc => by
  obtain ⟨x, _, rfl⟩ := List.mem_map.1 hc
  refine ⟨rfl, fun y hy => ?_⟩
  simp only [icells, List.mem_cons, List.not_mem_nil, or_false] at hy
  rcases hy with rfl | rfl | rfl | rfl | rfl <;> rfl
theorem InS.ins {w : World} {v : Value} {l : List In} (h : InS w v l) : Ins w v l := by
  rcases Sl.shape h with ⟨rfl, hl⟩ | ⟨g, cap, rfl, hc, hg⟩
  · have : l = [] := by simpa using hl
    subst this
    exact ⟨none, 0, rfl, Nat.le_refl _, fun i x hx => by simp at hx⟩
  · rw [List.length_map] at h hc ⊢
    refine ⟨some ⟨g, 0, none⟩, cap, rfl, hc, fun i x hx => ⟨g, 0, rfl, hg, fun k u hu => ?_⟩⟩
    have hi : (l.map icells)[i]? = some (icells x) := by rw [List.getElem?_map, hx]; rfl
    have hk : k < 5 := by
      have := (Array.getElem?_eq_some_iff.1 hu).1
      simpa using this
    rw [Nat.zero_add, Sl.cell h hi hk]
    rw [← hu]
    unfold icells
    simp
theorem Ins.src {w : World} {g off n c : Nat} {l : List In} (h : Ins w (.slice (some ⟨g, off, none⟩) n c) l) : ∀ j u, (l.map icells).flatten[j]? = some u → w.cell? ((⟨g, off, none⟩ : Addr).add j) = some u := fun j u hu => by
  have hall := fun c hc => (icells_len l c hc).1
  have hk : j % 5 < 5 := Nat.mod_lt _ (by omega)
  have hd : j = j / 5 * 5 + j % 5 := by omega
  have h2 := flatten_get hall (j / 5) (j % 5) hk
  rw [← hd, hu] at h2
  cases hx : l[j / 5]? with
  | none => rw [List.getElem?_map, hx] at h2; cases h2
  | some x =>
    rw [List.getElem?_map, hx] at h2
    obtain ⟨a, c', hv, _, hc⟩ := h
    obtain ⟨g', off', ha, hg, hcell⟩ := hc (j / 5) x hx
    cases hv
    cases ha
    have h3 := hcell (j % 5) u (by
      have : (icells x)[j % 5]? = some u := h2.symm
      unfold icells at this
      simpa using this)
    rw [add_n, show off + j = off + j / 5 * 5 + j % 5 by omega]
    exact h3

theorem inS_new (w : World) (l : List In) (hl : l.length ≤ 1000000) : InS (w.alloc (.cells (l.map icells).flatten.toArray 75)) (.slice (some ⟨w.heap.size, 0, none⟩) l.length l.length) l := by
  have hb : (w.alloc (.cells (l.map icells).flatten.toArray 75)).heap[w.heap.size]? = some (.cells (l.map icells).flatten.toArray 75 (0, 0)) := heap_alloc_new w _
  have hfl : (l.map icells).flatten.length = l.length * 5 := by rw [flatten_len (fun c hc => (icells_len l c hc).1), List.length_map]
  refine ⟨fun c hc => (icells_len l c hc).1, by rw [List.length_map]; exact hfl, .inr ⟨w.heap.size, l.length, _, by rw [List.length_map], Nat.zero_le _, hb, by rw [List.length_map]; exact Nat.le_refl _, by unfold maxLen; omega, by simp only [List.size_toArray, hfl], ?_⟩⟩
  rw [List.length_map, ← hfl]
  show List.take _ (l.map icells).flatten = _
  exact List.take_of_length_le (Nat.le_refl _)
section
variable {P : Program} {w : World} {ops : Array Oper} {rest : List Oper} {o : Oper} {a : Act} {Q : Exit → Act → World → Prop}
/-- 'append(s, x...)', slots behind slots -/
theorem wpList_appendS (hgd : o.guard = none) (s x : Operand) (t : TypeId) (ho : o.op = .call { callee := .builtin .append, args := #[s, x], argTypes := #[t, t] })
    {i0 : TypeInfo} {z : Value} (ht : P.underlying t = some (.slice 75)) (hi : P.info? 75 = some i0) (hz : i0.zero = some z) (hsz : i0.size = 5) (hby : i0.bytes = 12) (hzs : z.cells.size = 5)
    (v xv : Value) (B L : List In) (hs : a.eval s = v) (hx : a.eval x = xv) (h : InS w v B) (hb : Ins w xv L) (hpos : 0 < L.length) (hlen : B.length + L.length < 1073741824)
    (hK : ∀ v' w', InS w' v' (B ++ L) → Kept (fun k => v.ownBlock = some k) w w' → (∀ g, v'.ownBlock = some g → v.ownBlock = some g ∨ w.heap.size ≤ g) → wpList P ops Q rest (a.put o.dst v') w') :
    wpList P ops Q (o :: rest) a w := by
  obtain ⟨ad, c, rfl, hlc, hcc⟩ := hb
  obtain ⟨g0, off, had, hg0, -⟩ := hcc 0 L[0] (List.getElem?_eq_getElem hpos)
  subst had
  have hsrc := Ins.src (g := g0) (off := off) (n := L.length) (c := c) ⟨_, _, rfl, hlc, hcc⟩
  have hd := h.2
  rw [List.length_map] at hd
  have hfl : ∀ M : List In, (M.map icells).flatten.length = M.length * 5 := fun M => by rw [flatten_len (fun c hc => (icells_len M c hc).1), List.length_map]
  refine wpList_append_lies _ hgd s x t ho 0 75 i0 z 5 12 ht hi hz hsz hby hzs (by omega) v B.length _ hs hd ⟨g0, off, none⟩ L.length c (L.map icells).flatten hx (hfl L) hsrc (fun u hu => ?_) hpos (by unfold maxLen; omega) (by omega) (Nat.zero_le _) w.heap.size rfl ?_
  · obtain ⟨d, hd1, hd2⟩ := List.mem_flatten.1 hu
    exact (icells_len L d hd1).2 u hd2
  · intro g cap w' h2 h3 h4 h5
    refine hK _ w' ⟨fun d hd => (icells_len (B ++ L) d hd).1, ?_⟩ (Kept.of_grown (Kept.refl _ w) h3 (fun k hk _ => hk)) ?_
    · rw [List.length_map, List.length_append, List.map_append, List.flatten_append]
      exact h2
    · intro g' hg'
      simp only [Value.ownBlock, Option.some.injEq] at hg'
      subst hg'
      rcases h4 with h4 | rfl
      · exact .inl h4
      · exact .inr (Nat.le_refl _)
end

end Go.Proofs.YtdchmelgaljpfaaGreat
