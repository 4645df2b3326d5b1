import Derived.Test.YtdchmelgaljpfaaGreatMem
set_option linter.unusedSimpArgs false
set_option linter.unusedVariables false
namespace Go.Proofs.YtdchmelgaljpfaaGreat
open Go.RowKit

/-! ### lists of chunks -/
theorem flatten_len {sz : Nat} : ∀ {css : List (List Value)}, (∀ c ∈ css, c.length = sz) → css.flatten.length = css.length * sz
  | [], _ => by simp
  | c :: css, h => by
    have ih := flatten_len (css := css) (fun c hc => h c (List.mem_cons_of_mem _ hc))
    have hc := h c (List.mem_cons_self ..)
    simp only [List.flatten_cons, List.length_append, List.length_cons, ih, hc, Nat.add_mul]
    omega

theorem flatten_get {sz : Nat} : ∀ {css : List (List Value)}, (∀ c ∈ css, c.length = sz) → ∀ (i k : Nat), k < sz → css.flatten[i * sz + k]? = (css[i]?).bind (·[k]?)
  | [], _, i, k, _ => by simp
  | c :: css, h, 0, k, hk => by
    have hc := h c (List.mem_cons_self ..)
    simp only [List.flatten_cons, Nat.zero_mul, Nat.zero_add]
    rw [List.getElem?_append_left (by omega)]
    simp
  | c :: css, h, i + 1, k, hk => by
    have hc := h c (List.mem_cons_self ..)
    have ih := flatten_get (css := css) (fun c hc => h c (List.mem_cons_of_mem _ hc)) i k hk
    simp only [List.flatten_cons]
    have e : (i + 1) * sz + k = c.length + (i * sz + k) := by rw [hc, Nat.add_mul]; omega
    rw [e, List.getElem?_append_right (by omega), Nat.add_sub_cancel_left, ih]
    simp

def spliceL (xs : List Value) (o : Nat) (cs : List Value) : List Value := xs.take o ++ cs ++ xs.drop (o + cs.length)

theorem flatten_set {sz : Nat} : ∀ {css : List (List Value)}, (∀ c ∈ css, c.length = sz) → ∀ {i : Nat} {c : List Value}, i < css.length → c.length = sz → (css.set i c).flatten = spliceL css.flatten (i * sz) c
  | [], _, i, c, hi, _ => by simp at hi
  | d :: css, h, 0, c, _, hc => by
    have hd := h d (List.mem_cons_self ..)
    simp only [List.set_cons_zero, List.flatten_cons, spliceL, Nat.zero_mul, List.take_zero, List.nil_append, Nat.zero_add, hc]
    rw [List.drop_append_of_le_length (by omega), List.drop_of_length_le (by omega), List.nil_append]
  | d :: css, h, i + 1, c, hi, hc => by
    have hd := h d (List.mem_cons_self ..)
    have ih := flatten_set (css := css) (fun c hc => h c (List.mem_cons_of_mem _ hc)) (i := i) (c := c) (by simpa using hi) hc
    simp only [List.set_cons_succ, List.flatten_cons, ih, spliceL]
    have e : (i + 1) * sz = d.length + i * sz := by rw [hd, Nat.add_mul]; omega
    rw [e, List.take_length_add_append, Nat.add_assoc, List.drop_length_add_append]
    simp

theorem flatten_setk {sz : Nat} {css : List (List Value)} (h : ∀ c ∈ css, c.length = sz) {i k : Nat} {c : List Value} (hi : css[i]? = some c) (hk : k < sz) (u : Value) : (css.set i (c.set k u)).flatten = css.flatten.set (i * sz + k) u := by
  have hlt : i < css.length := (List.getElem?_eq_some_iff.1 hi).1
  have hci : css[i] = c := (List.getElem?_eq_some_iff.1 hi).2
  have hc : c.length = sz := h c (by rw [← hci]; exact List.getElem_mem ..)
  have hl := flatten_len h
  have hset : ∀ d ∈ css.set i (c.set k u), d.length = sz := fun d hd => by
    rcases List.mem_or_eq_of_mem_set hd with hd | rfl
    · exact h d hd
    · simpa using hc
  have hl2 := flatten_len hset
  apply List.ext_getElem?
  intro j
  by_cases hj : j < css.length * sz
  case neg => rw [List.getElem?_eq_none (by rw [hl2]; simp; omega), List.getElem?_eq_none (by rw [List.length_set, hl]; omega)]
  have hsz : 0 < sz := by omega
  have hjd : j = (j / sz) * sz + j % sz := by have := Nat.div_add_mod j sz; rw [Nat.mul_comm] at this; exact this.symm
  have hjm : j % sz < sz := Nat.mod_lt _ hsz
  rw [hjd, flatten_get hset _ _ hjm]
  by_cases e : j / sz = i
  · rw [e, List.getElem?_set_self hlt]
    simp only [Option.bind_some]
    by_cases e2 : j % sz = k
    · rw [e2, List.getElem?_set_self (by omega), List.getElem?_set_self (by
        rw [hl]
        calc i * sz + k < i * sz + sz := by omega
          _ = (i + 1) * sz := by rw [Nat.add_mul]; omega
          _ ≤ css.length * sz := Nat.mul_le_mul_right _ hlt)]
    · rw [List.getElem?_set_ne (Ne.symm e2), List.getElem?_set_ne (by omega), flatten_get h _ _ hjm, hi]
      rfl
  · have hne : i * sz + k ≠ j / sz * sz + j % sz := by
      intro he
      apply e
      have h1 : (i * sz + k) / sz = i := by rw [Nat.mul_comm, Nat.mul_add_div hsz, Nat.div_eq_of_lt hk]; rfl
      have h2 : (j / sz * sz + j % sz) / sz = j / sz := by rw [← hjd]
      rw [← h2, ← he, h1]
    rw [List.getElem?_set_ne (Ne.symm e), List.getElem?_set_ne hne, flatten_get h _ _ hjm]

/-! ### a slice in a row of its own -/
def Sl (w : World) (E sz : Nat) (v : Value) (css : List (List Value)) : Prop := (∀ c ∈ css, c.length = sz) ∧ w.ownsRow 0 E sz v css.length css.flatten

section
variable {w w' : World} {E sz : Nat} {v : Value} {css : List (List Value)}

theorem Sl.nil (w : World) (E sz : Nat) : Sl w E sz (.slice none 0 0) [] := ⟨by simp, World.ownsRow_nil w 0 E sz⟩

theorem Sl.shape (h : Sl w E sz v css) : (v = .slice none 0 0 ∧ css = []) ∨ ∃ g cap, v = .slice (some ⟨g, 0, none⟩) css.length cap ∧ css.length ≤ cap ∧ g < w.heap.size := by
  rcases h.2.2 with ⟨hv, hn⟩ | ⟨g, cap, cur, hv, _, hg, hc, _⟩
  · exact .inl ⟨hv, List.eq_nil_of_length_eq_zero hn⟩
  · exact .inr ⟨g, cap, hv, hc, (Array.getElem?_eq_some_iff.1 hg).1⟩

theorem Sl.some_ (h : Sl w E sz v css) (hn : 0 < css.length) : ∃ g cap, v = .slice (some ⟨g, 0, none⟩) css.length cap ∧ css.length ≤ cap ∧ g < w.heap.size := by
  rcases h.shape with ⟨_, rfl⟩ | h
  · simp at hn
  · exact h

theorem Sl.len {A : Option Addr} {n c : Nat} (h : Sl w E sz (.slice A n c) css) : n = css.length := by
  rcases h.shape with ⟨hv, rfl⟩ | ⟨g, cap, hv, _⟩
  · simp at hv; simp [hv]
  · simp at hv; exact hv.2.1

theorem Sl.any (h : Sl w E sz v css) : ∃ A cap, v = .slice A css.length cap := by
  rcases h.shape with ⟨rfl, rfl⟩ | ⟨g, cap, rfl, _⟩
  · exact ⟨_, _, rfl⟩
  · exact ⟨_, _, rfl⟩

theorem Sl.cell {g n cap : Nat} (h : Sl w E sz (.slice (some ⟨g, 0, none⟩) n cap) css) {i : Nat} {c : List Value} (hi : css[i]? = some c) {k : Nat} (hk : k < sz) : w.cell? ⟨g, i * sz + k, none⟩ = c[k]? := by
  have hn := h.len
  subst hn
  have hlt : i < css.length := (List.getElem?_eq_some_iff.1 hi).1
  have hb : i * sz + k < css.length * sz := by
    calc i * sz + k < i * sz + sz := by omega
      _ = (i + 1) * sz := by rw [Nat.add_mul]; omega
      _ ≤ css.length * sz := Nat.mul_le_mul_right _ hlt
  rw [World.ownsRow.cellAt h.2 _ hb, flatten_get h.1 i k hk, hi]
  rfl

theorem Sl.frozen {g n cap : Nat} (h : Sl w E sz (.slice (some ⟨g, 0, none⟩) n cap) css) (j : Nat) : w.frozen? ⟨g, j, none⟩ = false := by
  have hn := h.len
  subst hn
  exact World.ownsRow.frozenAt h.2 j

theorem Sl.setCell {g n cap : Nat} (h : Sl w E sz (.slice (some ⟨g, 0, none⟩) n cap) css) {i : Nat} {c : List Value} (hi : css[i]? = some c) {k : Nat} (hk : k < sz) (u : Value) :
    Sl (w.setCell ⟨g, i * sz + k, none⟩ u) E sz (.slice (some ⟨g, 0, none⟩) n cap) (css.set i (c.set k u)) := by
  have hn := h.len
  subst hn
  have hlt : i < css.length := (List.getElem?_eq_some_iff.1 hi).1
  have hc : c.length = sz := h.1 c (by rw [← (List.getElem?_eq_some_iff.1 hi).2]; exact List.getElem_mem ..)
  refine ⟨fun d hd => ?_, ?_⟩
  · rcases List.mem_or_eq_of_mem_set hd with hd | rfl
    · exact h.1 d hd
    · simpa using hc
  · rw [List.length_set, flatten_setk h.1 hi hk]
    exact (World.ownsRow.stored h.2 _ u).1

theorem Sl.kept {F : Nat → Prop} (hk : Kept F w w') (h : Sl w E sz v css) (hF : ∀ g, v.ownBlock = some g → ¬ F g) : Sl w' E sz v css := ⟨h.1, hk.owns h.2 hF⟩
theorem Sl.drew (h : Sl w E sz v css) : Sl w.drew E sz v css := h
theorem Sl.drewN (h : Sl w E sz v css) (n : Nat) : Sl (w.drewN n) E sz v css := h
theorem Sl.alloc (h : Sl w E sz v css) (o : Obj) : Sl (w.alloc o) E sz v css := ⟨h.1, h.2.alloc o⟩
theorem Sl.lt (h : Sl w E sz v css) : ∀ g, v.ownBlock = some g → g < w.heap.size := fun g hg => (h.2.lt g hg).2
theorem Sl.far (h : Sl w E sz v css) {p : Addr} (hp : v.ownBlock ≠ some p.block) (u : Value) : Sl (w.setCell p u) E sz v css :=
  h.kept (F := fun k => k = p.block) (Kept.setCell (F := fun k => k = p.block) (Kept.refl _ w) (fun _ => rfl) u) (fun g hg e => hp (by rw [hg, e]))

/-- a shorter slice of the same row -/
theorem Sl.pre {g n cap : Nat} {css : List (List Value)} {c : List Value} (h : Sl w E sz (.slice (some ⟨g, 0, none⟩) n cap) (css ++ [c])) : Sl w E sz (.slice (some ⟨g, 0, none⟩) css.length cap) css := by
  refine ⟨fun d hd => h.1 d (List.mem_append_left _ hd), flatten_len (fun d hd => h.1 d (List.mem_append_left _ hd)), ?_⟩
  rcases h.2.2 with ⟨hv, _⟩ | ⟨g', cap', cur, hv, hb, hg, hnc, hcm, hcs, htake⟩
  · simp at hv
  · simp only [Value.slice.injEq, Option.some.injEq, Addr.mk.injEq, and_true, true_and] at hv
    obtain ⟨rfl, _, rfl⟩ := hv
    refine .inr ⟨g, cap, cur, rfl, hb, hg, by simp at hnc; omega, hcm, hcs, ?_⟩
    have hl := flatten_len (css := css) (sz := sz) (fun d hd => h.1 d (List.mem_append_left _ hd))
    have e : cur.toList.take (css.length * sz) = (cur.toList.take ((css ++ [c]).length * sz)).take (css.length * sz) := by
      rw [List.take_take, Nat.min_eq_left (Nat.mul_le_mul_right _ (by simp))]
    rw [e, htake, List.flatten_append, List.take_append_of_le_length (by omega), List.take_of_length_le (by omega)]

/-- the cells of one element are written -/
theorem Sl.splice {g n cap : Nat} (h : Sl w E sz (.slice (some ⟨g, 0, none⟩) n cap) css) {i : Nat} (hi : i < css.length) {c : List Value} (hc : c.length = sz) :
    ∃ cur, w.heap[g]? = some (.cells cur E (0, 0)) ∧ i * sz + c.length ≤ cur.size ∧ Sl (w.setRow g (cur.toList.take (i * sz) ++ c ++ cur.toList.drop (i * sz + c.length)).toArray) E sz (.slice (some ⟨g, 0, none⟩) n cap) (css.set i c) := by
  have hn := h.len
  subst hn
  rcases h.2.2 with ⟨hv, _⟩ | ⟨g', cap', cur, hv, hb, hg, hnc, hcm, hcs, htake⟩
  · simp at hv
  · simp only [Value.slice.injEq, Option.some.injEq, Addr.mk.injEq, and_true, true_and] at hv
    obtain ⟨rfl, rfl⟩ := hv
    have hle : (i + 1) * sz ≤ css.length * sz := Nat.mul_le_mul_right _ hi
    have hle2 : css.length * sz ≤ cap * sz := Nat.mul_le_mul_right _ hnc
    have e1 : (i + 1) * sz = i * sz + sz := by rw [Nat.add_mul]; omega
    refine ⟨cur, hg, by omega, fun d hd => ?_, ?_, ?_⟩
    · rcases List.mem_or_eq_of_mem_set hd with hd | rfl
      · exact h.1 d hd
      · exact hc
    · rw [List.length_set, flatten_len (sz := sz)]
      · simp
      · intro d hd
        rcases List.mem_or_eq_of_mem_set hd with hd | rfl
        · exact h.1 d hd
        · exact hc
    · refine .inr ⟨g, cap, _, by rw [List.length_set], hb, setRow_heap w g cur _ E _ hg, by rw [List.length_set]; exact hnc, hcm, ?_, ?_⟩
      · simp only [List.size_toArray, List.length_append, List.length_take, List.length_drop, Array.length_toList]
        omega
      · rw [List.length_set, flatten_set h.1 hi hc, ← htake]
        unfold spliceL
        have hl : cur.toList.length = cap * sz := by simpa using hcs
        rw [List.take_append, List.take_append, List.take_take, List.length_take, List.length_append, List.length_take, hl]
        rw [List.take_of_length_le (l := c) (by omega), show min (css.length * sz) (i * sz) = i * sz from by omega, show min (i * sz) (cap * sz) = i * sz from by omega, List.take_take, show min (i * sz) (css.length * sz) = i * sz from by omega]
        congr 1
        rw [List.drop_take]
end

/-! ### laws for the walk -/
section
variable {P : Program} {w : World} {ops : Array Oper} {rest : List Oper} {o : Oper} {a : Act} {Q : Exit → Act → World → Prop}

/-- 's[i] = x', x a struct -/
theorem wpList_storeElem (c : List Value) (hgd : o.guard = none) (x v : Operand) (t : TypeId) (hop : o.op = .store t x v) {E sz : Nat} {i0 : TypeInfo} (hi : P.info? t = some i0) (hsz : i0.size = sz)
    (g n cap i : Nat) (css : List (List Value)) (hx : a.eval x = .pointer (some ⟨g, i * sz, none⟩)) (hv : (a.eval v).cells.toList = c) (hcs : c.length = sz) (h1 : ∀ y ∈ c, y.oneCell' = true)
    (h : Sl w E sz (.slice (some ⟨g, 0, none⟩) n cap) css) (hlt : i < css.length)
    (hK : ∀ w', Sl w' E sz (.slice (some ⟨g, 0, none⟩) n cap) (css.set i c) → Kept (fun k => k = g) w w' → wpList P ops Q rest (a.put o.dst undef) w') : wpList P ops Q (o :: rest) a w := by
  refine wpList_plain hgd fun K hKK => ?_
  obtain ⟨cur, hg, hfit, hs⟩ := h.splice hlt hcs
  have hst := run_storeCells_at P g (i * sz) E c 0 cur w hg (by simpa using hfit) h1
  simp only [Nat.add_zero] at hst
  have hne : (a.eval v).cells.size = i0.size := by rw [hsz, ← hcs, ← hv]; simp
  unfold Oper.wp
  simp [execOp, hop, hx, hv, Instr.storeAt, Instr.sureAddr, storeVar, sizeOf, typeInfo, hi, hst, Result.andThen]
  rw [if_pos hne, ← List.append_assoc]
  exact hKK _ _ (hK _ hs ⟨rfl, rfl, rfl, by simp, fun k _ hk => setRow_other w g k _ hk⟩)

/-- 's = append(s, x)', behind the making of x's own row -/
theorem wpList_push (hgd : o.guard = none) (s x : Operand) (t : TypeId) (ho : o.op = .call { callee := .builtin .append, args := #[s, x], argTypes := #[t, t] })
    {E sz bytes : Nat} {i0 : TypeInfo} {z : Value} (ht : P.underlying t = some (.slice E)) (hi : P.info? E = some i0) (hz : i0.zero = some z) (hsz : i0.size = sz) (hby : i0.bytes = bytes) (hzs : z.cells.size = sz) (hpos : 0 < sz)
    (v : Value) (css : List (List Value)) (c : List Value) (hs : a.eval s = v) (hx : a.eval x = .slice (some ⟨w.heap.size, 0, none⟩) 1 1)
    (h : Sl w E sz v css) (hc : c.length = sz) (h1 : ∀ u ∈ c, u.oneCell' = true) (hlen : css.length < 1073741824) (hb : bytes ≤ 65536)
    (hK : ∀ g cap w', Sl w' E sz (.slice (some ⟨g, 0, none⟩) (css.length + 1) cap) (css ++ [c]) → Kept (fun k => v.ownBlock = some k) w w' → (v.ownBlock = some g ∨ w.heap.size ≤ g) → wpList P ops Q rest (a.put o.dst (.slice (some ⟨g, 0, none⟩) (css.length + 1) cap)) w') :
    wpList P ops Q (o :: rest) a (w.alloc (.cells c.toArray E)) := by
  have hbl : (w.alloc (.cells c.toArray E)).heap[w.heap.size]? = some (.cells c.toArray E (0, 0)) := heap_alloc_new w _
  refine wpList_append_lies _ hgd s x t ho 0 E i0 z sz bytes ht hi hz hsz hby hzs hpos v css.length css.flatten hs (h.alloc _).2 ⟨w.heap.size, 0, none⟩ 1 1 c hx (by rw [hc]; omega)
    (fun j u hu => World.news_of_block hbl j u (by simpa using hu)) h1 (by omega) (by unfold maxLen; omega) ?_ (Nat.zero_le _) (w.heap.size + 1) (by simp) ?_
  · calc (css.length + 1) * bytes ≤ 1073741824 * 65536 := Nat.mul_le_mul (by omega) hb
      _ ≤ 140737488355328 := by omega
  · intro g cap w' h2 h3 h4 _
    refine hK g cap w' ⟨fun d hd => ?_, by simpa using h2⟩ ?_ ?_
    · rcases List.mem_append.1 hd with hd | hd
      · exact h.1 d hd
      · rw [List.mem_singleton.1 hd]; exact hc
    · exact Kept.of_grown ((Kept.refl _ w).alloc _) h3 (fun k hk _ => hk)
    · rcases h4 with h4 | rfl
      · exact .inl h4
      · exact .inr (by omega)
end

end Go.Proofs.YtdchmelgaljpfaaGreat
