import Derived.Test.YtdgniibolfahaaaKj
import Derived.Test.YtdgniibolfahaaaTree
set_option linter.unusedSimpArgs false
set_option linter.unusedVariables false
namespace Go.Proofs.Ytdgniibolfahaaa
open Go.RowKit

/-! ### rows with room -/
section
variable {P : Program} {w : World} {ops : Array Oper} {rest : List Oper} {o : Oper} {a : Act} {Q : Exit → Act → World → Prop}
theorem wpList_pushFit (hgd : o.guard = none) (s x : Operand) (t : TypeId) (ho : o.op = .call { callee := .builtin .append, args := #[s, x], argTypes := #[t, t] })
    {E sz : Nat} {i0 : TypeInfo} (ht : P.underlying t = some (.slice E)) (hi : P.info? E = some i0) (hsz : i0.size = sz)
    (g m cap nn : Nat) (css : List (List Value)) (c : List Value) (hs : a.eval s = .slice (some ⟨g, 0, none⟩) m cap) (hx : a.eval x = .slice (some ⟨nn, 0, none⟩) 1 1) (hnn : nn = w.heap.size)
    (h : Sl w E sz (.slice (some ⟨g, 0, none⟩) m cap) css) (hc : c.length = sz) (h1 : ∀ u ∈ c, u.oneCell' = true) (hroom : m < cap)
    (hK : ∀ w', Sl w' E sz (.slice (some ⟨g, 0, none⟩) (m + 1) cap) (css ++ [c]) → Kept (fun k => k = g) w w' → wpList P ops Q rest (a.put o.dst (.slice (some ⟨g, 0, none⟩) (m + 1) cap)) w') :
    wpList P ops Q (o :: rest) a (w.alloc (.cells c.toArray E)) := by
  subst hnn
  have hn := h.len
  have hbl : (w.alloc (.cells c.toArray E)).heap[w.heap.size]? = some (.cells c.toArray E (0, 0)) := heap_alloc_new w _
  have h2 := (h.alloc (.cells c.toArray E)).2
  rw [← hn] at h2
  refine wpList_append_fits _ hgd s x t ho 0 E i0 sz ht hi hsz g m cap css.flatten hs h2 ⟨w.heap.size, 0, none⟩ 1 1 c hx (by rw [hc]; omega)
    (fun j u hu => World.news_of_block hbl j u (by simpa using hu)) h1 (by omega) ?_
  intro w' h3 h4
  have hlen : (css ++ [c]).length = m + 1 := by rw [List.length_append, List.length_singleton, ← hn]
  refine hK w' ⟨fun d hd => ?_, by rw [hlen]; simpa using h3⟩ (Kept.of_grown ((Kept.refl _ w).alloc _) h4 (fun k hk _ => (Option.some.inj hk).symm))
  rcases List.mem_append.1 hd with hd | hd
  · exact h.1 d hd
  · rw [List.mem_singleton.1 hd]; exact hc
/-- 'make([]T, 0, n)' -/
theorem wpList_makeRoom (hgd : o.guard = none) (l c : Operand) (t : TypeId) (hop : o.op = Op.makeSlice t l c) {E : TypeId}
    {i0 : TypeInfo} (z : Value) (sz : Nat) {by_ : Nat} (ht : P.underlying t = some (.slice E)) (hi : P.info? E = some i0) (hz : i0.zero = some z) (hsz : i0.size = sz) (hby : i0.bytes = by_) (hb8 : by_ ≤ 64)
    (n : Nat) (hl : a.eval l = .int .i64 0) (hc : a.eval c = .int .i64 n) (hn : n ≤ 1099511627776)
    (hK : ∀ w', Sl w' E sz (.slice (some ⟨w.heap.size, 0, none⟩) 0 n) [] → Kept (fun _ => False) w w' → wpList P ops Q rest (a.put o.dst (.slice (some ⟨w.heap.size, 0, none⟩) 0 n)) w') : wpList P ops Q (o :: rest) a w := by
  refine wpList_make_own w hgd l c t hop 0 E i0 z sz ht hi hz hsz .i64 .i64 n n hl hc rfl ?_ (by unfold maxLen; omega) (Nat.zero_le _) ?_
  · rw [hby]
    exact Nat.le_trans (Nat.mul_le_mul hb8 hn) (by omega)
  intro w' h1 h2
  exact hK w' ⟨by simp, h1⟩ (Kept.of_grown (Kept.refl _ w) h2 (fun k hk _ => by cases hk))
end
theorem cut3I (g n c i : Nat) (hi : i ≤ c) (w : World) : (Instr.sliceAt 26 (.slice (some ⟨g, 0, none⟩) n c) none (some (.int .i64 i)) (some (.int .i64 i))).run Try.prog w = .ok (.slice (some ⟨g, 0, none⟩) i i) w := by
  obtain ⟨i0, hI0, hI1, hI2, hI3⟩ := info_parts infoI
  simp [Instr.sliceAt, Instr.slice, run_underlying Try.underlying26, Instr.sliceBounds, run_sliceBound, sizeOf, typeInfo, hI0, hi, add_n]
theorem cut3N (g n c i : Nat) (hi : i ≤ c) (w : World) : (Instr.sliceAt 22 (.slice (some ⟨g, 0, none⟩) n c) none (some (.int .i64 i)) (some (.int .i64 i))).run Try.prog w = .ok (.slice (some ⟨g, 0, none⟩) i i) w := by
  obtain ⟨i0, hI0, hI1, hI2, hI3⟩ := info_parts infoIn
  simp [Instr.sliceAt, Instr.slice, run_underlying Try.underlying22, Instr.sliceBounds, run_sliceBound, sizeOf, typeInfo, hI0, hi, add_n]

theorem mix_valW {P : Program} {ops : Array Oper} {C : World → Prop} {K : Act → World → Prop} {ks : List Kd} {o : Oper} {l : List Oper} {a : Act} {w : World} (hg : o.guard = none) (u : Value)
    (hr : ∀ w', (execOp a.eval o).run P w' = .ok (.value u) w') (h : Mix P ops C K ks l (a.put o.dst u) w) : Mix P ops C K (.w :: ks) (o :: l) a w := by
  refine mix_w1 ?_
  unfold wpQuiet
  have hw : Region.wanted o (yielded ops a.tmps) = true := by simp [Region.wanted, hg]
  rw [if_pos hw]
  refine ⟨u, fun w' hw' => ?_, h⟩
  unfold Oper.quietAt
  rw [hr w']
  exact ⟨rfl, rfl⟩

/-! ### what is kept -/
def placeC (S : List Bool) (i : Nat) : Nat := (S.take i).count true
def fixC (l : List In) (S : List Bool) (i : Nat) (x : In) : In := if (secL l)[i]? = some true then x
  else if fjB x = true then { x with off := (placeC S ((i : Int) + 1 + x.off).toNat : Int) - ((placeC S i : Int) + 1) }
  else if isCallB x = true then { x with imm := (placeC S ((i : Int) + 1 + x.imm).toNat : Int) - ((placeC S i : Int) + 1) } else x
def keptG (l : List In) (S : List Bool) (n : Nat) : List In := (List.range n).filterMap (fun i => if S[i]? = some true then (l[i]?).map (fixC l S i) else none)
theorem place_succ {S : List Bool} {i : Nat} {b : Bool} (h : S[i]? = some b) : placeC S (i + 1) = placeC S i + (if b = true then 1 else 0) := by
  unfold placeC
  rw [List.take_add_one, h, Option.toList_some, List.count_append]
  cases b <;> simp
theorem place_mono (S : List Bool) {i j : Nat} (h : i ≤ j) : placeC S i ≤ placeC S j := by
  unfold placeC
  have : S.take i = (S.take j).take i := by rw [List.take_take, Nat.min_eq_left h]
  rw [this]
  exact (List.take_sublist _ _).count_le _
theorem place_le (S : List Bool) (i : Nat) : placeC S i ≤ i := by
  unfold placeC
  exact Nat.le_trans List.count_le_length (by simp; omega)
theorem kept_succ {l : List In} {S : List Bool} {i : Nat} {x : In} {b : Bool} (hx : l[i]? = some x) (hb : S[i]? = some b) : keptG l S (i + 1) = keptG l S i ++ (if b = true then [fixC l S i x] else []) := by
  unfold keptG
  rw [List.range_succ, List.filterMap_append]
  cases b <;> simp [hx, hb]
theorem kept_len {l : List In} {S : List Bool} : ∀ n, n ≤ l.length → n ≤ S.length → (keptG l S n).length = placeC S n ∧ (outL S n).length = placeC S n
  | 0, _, _ => ⟨rfl, rfl⟩
  | n + 1, h1, h2 => by
    obtain ⟨x, hx⟩ : ∃ x, l[n]? = some x := ⟨_, List.getElem?_eq_getElem (by omega)⟩
    obtain ⟨b, hb⟩ : ∃ b, S[n]? = some b := ⟨_, List.getElem?_eq_getElem (by omega)⟩
    obtain ⟨ih1, ih2⟩ := kept_len (l := l) (S := S) n (by omega) (by omega)
    rw [kept_succ hx hb, out_succ S n b hb, place_succ hb, List.length_append, List.length_append, ih1, ih2]
    cases b <;> simp

end Go.Proofs.Ytdgniibolfahaaa
