import Derived.Test.YtdchmelgaljpfaaGreatSg
import Derived.Test.YtdchmelgaljpfaaGreatMh
import Derived.Test.YtdchmelgaljpfaaGreatTree
import Derived.Outline
import Derived.Deep.LoopGhost
import Derived.OwnWalk
set_option linter.unusedSimpArgs false
set_option linter.unusedVariables false
namespace Go.Proofs.YtdchmelgaljpfaaGreat
open Go.RowKit

def icell' (x : Int) : List Value := [.int .i64 x]
theorem infoI : (Tryz.prog.info? 3).map (fun i => (i.zero, i.size, i.bytes)) = some (some (.int .i64 0), 1, 8) := by kernel_rfl
/-! ### rows of integers, and of truths, that a call owns -/
def tcell (b : Bool) : List Value := [.bool b]
abbrev Ints (w : World) (v : Value) (L : List Int) : Prop := Sl w 3 1 v (L.map icell')
abbrev Bls (w : World) (v : Value) (B : List Bool) : Prop := Sl w 4 1 v (B.map tcell)
theorem infoB : (Tryz.prog.info? 4).map (fun i => (i.zero, i.size, i.bytes)) = some (some (.bool false), 1, 1) := by kernel_rfl
theorem ints_flat (L : List Int) : (L.map icell').flatten = L.map (.int .i64) := by
  induction L with
  | nil => rfl
  | cons x r ih => simp only [List.map_cons, List.flatten_cons, ih]; rfl
theorem Ints.cell {w : World} {g n cap : Nat} {L : List Int} (h : Ints w (.slice (some ⟨g, 0, none⟩) n cap) L) {i : Nat} {x : Int} (hi : L[i]? = some x) : w.cell? ⟨g, i, none⟩ = some (.int .i64 x) := by
  have := Sl.cell h (i := i) (c := icell' x) (by rw [List.getElem?_map, hi]; rfl) (k := 0) (by omega)
  simpa [icell'] using this
theorem Bls.cell {w : World} {g n cap : Nat} {L : List Bool} (h : Bls w (.slice (some ⟨g, 0, none⟩) n cap) L) {i : Nat} {x : Bool} (hi : L[i]? = some x) : w.cell? ⟨g, i, none⟩ = some (.bool x) := by
  have := Sl.cell h (i := i) (c := tcell x) (by rw [List.getElem?_map, hi]; rfl) (k := 0) (by omega)
  simpa [tcell] using this
theorem Ints.set {w : World} {g n cap : Nat} {L : List Int} (h : Ints w (.slice (some ⟨g, 0, none⟩) n cap) L) {i : Nat} (hi : i < L.length) (x : Int) : Ints (w.setCell ⟨g, i, none⟩ (.int .i64 x)) (.slice (some ⟨g, 0, none⟩) n cap) (L.set i x) := by
  have := Sl.setCell h (i := i) (c := icell' L[i]) (by rw [List.getElem?_map, List.getElem?_eq_getElem hi]; rfl) (k := 0) (by omega) (.int .i64 x)
  simp only [icell', List.set_cons_zero, Nat.mul_one, Nat.add_zero] at this
  unfold Ints
  rw [List.map_set]
  exact this
theorem Bls.set {w : World} {g n cap : Nat} {L : List Bool} (h : Bls w (.slice (some ⟨g, 0, none⟩) n cap) L) {i : Nat} (hi : i < L.length) (x : Bool) : Bls (w.setCell ⟨g, i, none⟩ (.bool x)) (.slice (some ⟨g, 0, none⟩) n cap) (L.set i x) := by
  have := Sl.setCell h (i := i) (c := tcell L[i]) (by rw [List.getElem?_map, List.getElem?_eq_getElem hi]; rfl) (k := 0) (by omega) (.bool x)
  simp only [tcell, List.set_cons_zero, Nat.mul_one, Nat.add_zero] at this
  unfold Bls
  rw [List.map_set]
  exact this
theorem Ints.lt {w : World} {g n cap : Nat} {L : List Int} (h : Ints w (.slice (some ⟨g, 0, none⟩) n cap) L) : g < w.heap.size := Sl.lt h g rfl
theorem Ints.pop {w : World} {g n cap : Nat} {L : List Int} {x : Int} (h : Ints w (.slice (some ⟨g, 0, none⟩) n cap) (L ++ [x])) : Ints w (.slice (some ⟨g, 0, none⟩) L.length cap) L := by
  unfold Ints at h
  rw [List.map_append] at h
  have := Sl.pre (c := icell' x) h
  simpa using this

section
variable {P : Program} {w : World} {ops : Array Oper} {rest : List Oper} {o : Oper} {a : Act} {Q : Exit → Act → World → Prop}
/-- 'make([]T, n)', T of one cell -/
theorem wpList_makeSl (hgd : o.guard = none) (l c : Operand) (t : TypeId) (hop : o.op = Op.makeSlice t l c) {E : TypeId}
    {i0 : TypeInfo} (z : Value) (hz1 : z.cells = #[z]) {by_ : Nat} (ht : P.underlying t = some (.slice E)) (hi : P.info? E = some i0) (hz : i0.zero = some z) (hsz : i0.size = 1) (hby : i0.bytes = by_) (hb8 : by_ ≤ 8)
    (n : Nat) (hl : a.eval l = .int .i64 n) (hc : a.eval c = .int .i64 n) (hn : n ≤ 1099511627776)
    (hK : ∀ w', Sl w' E 1 (.slice (some ⟨w.heap.size, 0, none⟩) n n) (List.replicate n [z]) → Kept (fun _ => False) w w' → wpList P ops Q rest (a.put o.dst (.slice (some ⟨w.heap.size, 0, none⟩) n n)) w') : wpList P ops Q (o :: rest) a w := by
  refine wpList_make_full w hgd l c t hop 0 E i0 z 1 ht hi hz hsz .i64 .i64 n n n hl hc rfl rfl ?_ (by unfold maxLen; omega) (Nat.zero_le _) ?_
  · rw [hby]
    exact Nat.le_trans (Nat.mul_le_mul hb8 hn) (by omega)
  intro w' h1 h2
  refine hK w' ⟨fun d hd => ?_, ?_⟩ (Kept.of_grown (Kept.refl _ w) h2 (fun k hk _ => by cases hk))
  · rw [(List.mem_replicate.1 hd).2]; rfl
  · have e : (madeCells z.cells (n * 1)).toList = (List.replicate n [z]).flatten := by
      rw [Nat.mul_one, hz1]
      apply List.ext_getElem
      · simp [madeCells]
      · intro i h3 h4
        simp [madeCells, Nat.mod_one]
    rw [e] at h1
    rw [List.length_replicate]
    exact h1
/-- 'append(s, x...)', integers behind integers -/
theorem wpList_appendI (hgd : o.guard = none) (s x : Operand) (t : TypeId) (ho : o.op = .call { callee := .builtin .append, args := #[s, x], argTypes := #[t, t] })
    {i0 : TypeInfo} {z : Value} (ht : P.underlying t = some (.slice 3)) (hi : P.info? 3 = some i0) (hz : i0.zero = some z) (hsz : i0.size = 1) (hby : i0.bytes = 8) (hzs : z.cells.size = 1)
    (v xv : Value) (B L : List Int) (hs : a.eval s = v) (hx : a.eval x = xv) (h : Ints w v B) (hb : Ints w xv L) (hlen : B.length + L.length < 1099511627)
    (hK : ∀ v' w', Ints w' v' (B ++ L) → Kept (fun k => v.ownBlock = some k) w w' → (∀ g, v'.ownBlock = some g → v.ownBlock = some g ∨ w.heap.size ≤ g) → wpList P ops Q rest (a.put o.dst v') w') :
    wpList P ops Q (o :: rest) a w := by
  by_cases hL : L = []
  · subst hL
    have hr : (Builtin.append_ #[t, t] o.type #[v, xv]).run P w = .ok v w := by
      have hxv : ∃ A c, xv = .slice A 0 c := by
        obtain ⟨A, c, hv⟩ := Sl.any hb
        exact ⟨A, c, hv⟩
      obtain ⟨A, c, rfl⟩ := hxv
      obtain ⟨A', c', rfl⟩ := Sl.any h
      cases A' <;> cases A <;> simp [Builtin.append_, run_underlying ht, sizeOf, typeInfo, hi, Builtin.lenOf, Builtin.firstCells, loadCells, loadCellsFrom, storeCells]
      all_goals
        rcases Sl.shape h with ⟨hv, hB⟩ | ⟨g, cap, hv, hc, _⟩
        · simp at hv
          try simp [hv]
        · simp at hv
          try (obtain ⟨rfl, rfl⟩ := hv)
          try simp at hc
          try omega
    refine wpList_plain hgd fun K hKK => ?_
    unfold Oper.wp
    simp [execOp, ho, resolve, invoke, builtin, hs, hx, hr, Result.andThen]
    exact hKK _ _ (hK v w (by simpa using h) (Kept.refl _ w) (fun g hg => .inl hg))
  · have hpos : 0 < L.length := List.length_pos_iff.2 hL
    obtain ⟨b, c, rfl, hlc, hbl⟩ := Sl.some_ hb (by simpa using hpos)
    rw [List.length_map] at *
    have hd := h.2
    rw [ints_flat, List.length_map] at hd
    refine wpList_append_lies _ hgd s x t ho 0 3 i0 z 1 8 ht hi hz hsz hby hzs (by omega) v B.length (B.map (.int .i64)) hs hd ⟨b, 0, none⟩ L.length c (L.map (.int .i64)) hx (by simp)
      (fun j u hu => ?_) (fun u hu => ?_) hpos (by unfold maxLen; omega) (by omega) (Nat.zero_le _) w.heap.size rfl ?_
    · rw [List.getElem?_map] at hu
      obtain ⟨x, hx1, hx2⟩ := Option.map_eq_some_iff.1 hu
      have := Ints.cell hb hx1
      rw [add_n, Nat.zero_add, ← hx2]
      exact this
    · obtain ⟨x, _, rfl⟩ := List.mem_map.1 hu
      rfl
    · intro g cap w' h2 h3 h4 h5
      refine hK _ w' ⟨fun d hd => ?_, ?_⟩ (Kept.of_grown (Kept.refl _ w) h3 (fun k hk _ => hk)) ?_
      · obtain ⟨u, _, rfl⟩ := List.mem_map.1 hd; rfl
      · rw [ints_flat, List.length_map, List.length_append, List.map_append]
        exact h2
      · intro g' hg'
        simp only [Value.ownBlock, Option.some.injEq] at hg'
        subst hg'
        rcases h4 with h4 | rfl
        · exact .inl h4
        · exact .inr (Nat.le_refl _)
end

theorem cutI (g o n c i : Nat) (hi : i ≤ c) (w : World) : (Instr.sliceAt 47 (.slice (some ⟨g, o, none⟩) n c) none (some (.int .i64 i)) none).run Tryz.prog w = .ok (.slice (some ⟨g, o, none⟩) i c) w := by
  obtain ⟨i0, hI0, hI1, hI2, hI3⟩ := info_parts infoI
  simp [Instr.sliceAt, Instr.slice, run_underlying Tryz.underlying47, Instr.sliceBounds, run_sliceBound, sizeOf, typeInfo, hI0, hi, add_n]

end Go.Proofs.YtdchmelgaljpfaaGreat
