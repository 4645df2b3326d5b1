import Derived.Test.YtahabogjfcdjkaaGreatSg
import Derived.Test.YtahabogjfcdjkaaGreatSMap
import Derived.Test.YtahabogjfcdjkaaGreatTree
import Derived.Laws.IdiomStrings
import Derived.Lib.BufferRead
import Derived.Lib.SliceRun
set_option linter.unusedSimpArgs false
set_option linter.unusedVariables false
namespace Go.Proofs.YtahabogjfcdjkaaGreat
open Go.RowKit

/-! ### slices of bytes -/
def bcell (b : UInt8) : List Value := [.int .u8 (b.toNat : Int)]
def bcells (l : List UInt8) : List Value := l.map fun b => .int .u8 (b.toNat : Int)
theorem bcells_len (l : List UInt8) : (bcells l).length = l.length := by simp [bcells]
theorem bcells_flat : ∀ (l : List UInt8), (l.map bcell).flatten = bcells l
  | [] => rfl
  | b :: l => by simp only [List.map_cons, List.flatten_cons, bcells_flat l]; rfl
theorem bcells_one (l : List UInt8) : ∀ u ∈ bcells l, u.oneCell' = true := by
  intro u hu
  obtain ⟨b, _, rfl⟩ := List.mem_map.1 hu
  rfl
theorem bcell_one (b : UInt8) : ∀ u ∈ bcell b, u.oneCell' = true := by simp [bcell, Value.oneCell']
abbrev Bs (w : World) (v : Value) (l : List UInt8) : Prop := Sl w 5 1 v (l.map bcell)

/-- bytes that can be read -/
def By (w : World) (v : Value) (l : List UInt8) : Prop :=
  (∃ c, v = .slice none 0 c ∧ l = []) ∨ ∃ b off c, v = .slice (some ⟨b, off, none⟩) l.length c ∧ b < w.heap.size ∧ l.length ≤ c ∧ ∀ j u, (bcells l)[j]? = some u → w.cell? ⟨b, off + j, none⟩ = some u

section
variable {P : Program} {w w' : World} {v : Value} {l : List UInt8}
theorem Sl.by_ (h : Bs w v l) : By w v l := by
  rcases h.shape with ⟨rfl, hl⟩ | ⟨g, cap, rfl, hcp, hg⟩
  · exact .inl ⟨0, rfl, by simpa using hl⟩
  · refine .inr ⟨g, 0, cap, by simp, hg, by simpa using hcp, fun j u hu => ?_⟩
    have hj : j < l.length := by have := (List.getElem?_eq_some_iff.1 hu).1; rwa [bcells_len] at this
    have := h.cell (i := j) (c := bcell l[j]) (by simp [hj]) (k := 0) (by omega)
    rw [Nat.mul_one, Nat.add_zero] at this
    rw [Nat.zero_add, this]
    simp only [bcells, List.getElem?_map, List.getElem?_eq_getElem hj, Option.map_some] at hu
    rw [← hu]
    rfl
theorem By.any (h : By w v l) : ∃ A c, v = .slice A l.length c := by
  rcases h with ⟨c, rfl, rfl⟩ | ⟨b, off, c, rfl, _⟩
  · exact ⟨_, _, rfl⟩
  · exact ⟨_, _, rfl⟩
theorem By.kept {F : Nat → Prop} (h : By w v l) (hk : Kept F w w') (hF : ∀ g, v.ownBlock = some g → ¬ F g) : By w' v l := by
  rcases h with h | ⟨b, off, c, rfl, hb, hcp, hc⟩
  · exact .inl h
  · refine .inr ⟨b, off, c, rfl, Nat.lt_of_lt_of_le hb hk.size, hcp, fun j u hu => ?_⟩
    rw [hk.cell (p := ⟨b, off + j, none⟩) hb (hF b rfl)]
    exact hc j u hu
theorem By.lt (h : By w v l) : ∀ g, v.ownBlock = some g → g < w.heap.size := by
  intro g hg
  rcases h with ⟨c, rfl, _⟩ | ⟨b, off, c, rfl, hb, _⟩
  · simp [Value.ownBlock] at hg
  · simp only [Value.ownBlock, Option.some.injEq] at hg
    omega
theorem By.drew (h : By w v l) : By w.drew v l := h
theorem By.drewN (h : By w v l) (n : Nat) : By (w.drewN n) v l := h
theorem By.alloc (h : By w v l) (o : Obj) : By (w.alloc o) v l := h.kept (F := fun _ => False) (Kept.alloc (Kept.refl _ w) o) (fun _ _ h => h)
theorem By.ofNew (w : World) (l : List UInt8) (c : Nat) (hl : l.length ≤ c) : By (w.alloc (.cells (bcells l).toArray 5)) (.slice (some ⟨w.heap.size, 0, none⟩) l.length c) l := by
  refine .inr ⟨w.heap.size, 0, c, rfl, by simp, hl, fun j u hu => ?_⟩
  have := World.news_of_block (w := w.alloc (.cells (bcells l).toArray 5)) (heap_alloc_new w _) j u (by simpa using hu)
  rwa [add_n] at this

/-- 'string(b)' -/
theorem By.conv {src dst e : TypeId} (hs : P.underlying src = some (.slice e)) (he : P.underlying e = some (.int .u8)) (hd : P.underlying dst = some .string) (h : By w v l) : (convert src dst v).run P w = .ok (sV l) w := by
  rcases h with ⟨c, rfl, rfl⟩ | ⟨b, off, c, rfl, _, _, hc⟩
  · exact Lib.run_convert_nil_bytes w src dst e c hs he hd
  · refine run_convert_bytes_back w src dst e ⟨b, off, none⟩ c l hs he hd fun j hj => ?_
    rw [add_n]
    exact hc j _ (by simp [bcells, hj])
end

section
variable {P : Program} {w : World} {ops : Array Oper} {rest : List Oper} {o : Oper} {a : Act} {Q : Exit → Act → World → Prop}

/-- 'append(s, x...)', bytes behind bytes -/
theorem wpList_appendBy (hgd : o.guard = none) (s x : Operand) (t : TypeId) (ho : o.op = .call { callee := .builtin .append, args := #[s, x], argTypes := #[t, t] })
    {i0 : TypeInfo} {z : Value} (ht : P.underlying t = some (.slice 5)) (hi : P.info? 5 = some i0) (hz : i0.zero = some z) (hsz : i0.size = 1) (hby : i0.bytes = 1) (hzs : z.cells.size = 1)
    (v xv : Value) (B L : List UInt8) (hs : a.eval s = v) (hx : a.eval x = xv) (h : Bs w v B) (hb : By w xv L) (hlen : B.length + L.length < 1099511627776)
    (hK : ∀ v' w', Bs w' v' (B ++ L) → Kept (fun k => v.ownBlock = some k) w w' → (∀ g, v'.ownBlock = some g → v.ownBlock = some g ∨ w.heap.size ≤ g) → (v' = .slice none 0 0 → v = .slice none 0 0) → wpList P ops Q rest (a.put o.dst v') w') :
    wpList P ops Q (o :: rest) a w := by
  by_cases hL : L = []
  · subst hL
    obtain ⟨A, c, rfl⟩ := hb.any
    have hr : (Builtin.append_ #[t, t] o.type #[v, .slice A 0 c]).run P w = .ok v w := by
      obtain ⟨A', c', rfl⟩ := h.any
      cases A' <;> cases A <;> simp [Builtin.append_, run_underlying ht, sizeOf, typeInfo, hi, Builtin.lenOf, Builtin.firstCells, loadCells, loadCellsFrom, storeCells]
      all_goals
        rcases h.shape with ⟨hv, hB⟩ | ⟨g, cap, hv, hc, _⟩
        · simp at hv
          try simp [hv]
        · simp at hv
          try (obtain ⟨rfl, rfl⟩ := hv)
          try simp at hc
          try omega
    refine wpList_plain hgd fun K hKK => ?_
    unfold Oper.wp
    simp only [List.length_nil] at hx
    simp [execOp, ho, resolve, invoke, builtin, hs, hx, hr, Result.andThen]
    exact hKK _ _ (hK v w (by simpa using h) (Kept.refl _ w) (fun g hg => .inl hg) (fun h => h))
  · rcases hb with ⟨c, _, hL2⟩ | ⟨b, off, c, rfl, hbl, _, hc⟩
    · exact absurd hL2 hL
    · have hpos : 0 < L.length := List.length_pos_iff.2 hL
      have hd := h.2
      rw [bcells_flat] at hd
      refine wpList_append_lies _ hgd s x t ho 0 5 i0 z 1 1 ht hi hz hsz hby hzs (by omega) v (B.map bcell).length (bcells B) hs hd ⟨b, off, none⟩ L.length c (bcells L) hx (by rw [bcells_len]; omega)
        (fun j u hu => by rw [add_n]; exact hc j u hu) (bcells_one L) hpos (by unfold maxLen; simp; omega) (by simp; omega) (Nat.zero_le _) w.heap.size rfl ?_
      intro g cap w' h2 h3 h4 h5
      refine hK _ w' ⟨fun d hd => ?_, ?_⟩ ?_ ?_ (fun h => by simp at h)
      · obtain ⟨u, _, rfl⟩ := List.mem_map.1 hd; rfl
      · rw [bcells_flat]
        simpa [bcells, List.map_append] using h2
      · exact Kept.of_grown (Kept.refl _ w) h3 (fun k hk _ => hk)
      · intro g' hg'
        simp only [Value.ownBlock, Option.some.injEq] at hg'
        subst hg'
        rcases h4 with h4 | rfl
        · exact .inl h4
        · exact .inr (Nat.le_refl _)

/-- the cells of a row of bytes -/
theorem Bs.row {g n cap : Nat} {B : List UInt8} (h : Bs w (.slice (some ⟨g, 0, none⟩) n cap) B) : ∃ cur, w.heap[g]? = some (.cells cur 5 (0, 0)) ∧ n = B.length ∧ n ≤ cap ∧ cap ≤ maxLen ∧ cur.size = cap ∧ cur.toList.take B.length = bcells B := by
  obtain ⟨_, hl, hr⟩ := h
  rcases hr with ⟨hv, _⟩ | ⟨g', cap', cur, hv, _, hg, hnc, hcm, hcs, htk⟩
  · simp at hv
  · simp only [Value.slice.injEq, Option.some.injEq, Addr.mk.injEq, and_true, true_and] at hv
    obtain ⟨rfl, hn, rfl⟩ := hv
    rw [bcells_flat] at htk
    simp only [List.length_map, Nat.mul_one] at hnc hn htk hcs
    exact ⟨cur, hg, hn, by omega, hcm, hcs, htk⟩
theorem Bs.ofRow {g cap : Nat} {B : List UInt8} {cur : Array Value} (hg : w.heap[g]? = some (.cells cur 5 (0, 0))) (h1 : B.length ≤ cap) (h2 : cap ≤ maxLen) (h3 : cur.size = cap) (h4 : cur.toList.take B.length = bcells B) :
    Bs w (.slice (some ⟨g, 0, none⟩) B.length cap) B := by
  refine ⟨fun d hd => ?_, by rw [bcells_flat, bcells_len]; simp, .inr ⟨g, cap, cur, by simp, Nat.zero_le _, hg, by simpa using h1, h2, by simpa using h3, ?_⟩⟩
  · obtain ⟨u, _, rfl⟩ := List.mem_map.1 hd; rfl
  · rw [bcells_flat]
    simpa using h4

/-- bytes laid over others -/
theorem Bs.over {g n cap : Nat} {B : List UInt8} (h : Bs w (.slice (some ⟨g, 0, none⟩) n cap) B) (at_ : Nat) (L : List UInt8) (hle : at_ + L.length ≤ B.length) :
    ∃ w', (storeCells ⟨g, at_, none⟩ (bcells L)).run P w = .ok () w' ∧ Bs w' (.slice (some ⟨g, 0, none⟩) n cap) (B.take at_ ++ L ++ B.drop (at_ + L.length)) ∧ Kept (fun k => k = g) w w' := by
  obtain ⟨cur, hg, rfl, hnc, hcm, hcs, htk⟩ := h.row
  have hst := run_storeCells_at P g at_ 5 (bcells L) 0 cur w hg (by rw [bcells_len]; omega) (bcells_one L)
  simp only [Nat.add_zero] at hst
  refine ⟨_, hst, ?_, ⟨rfl, rfl, rfl, by simp, fun k _ hk => setRow_other w g k _ hk⟩⟩
  have hlen : (B.take at_ ++ L ++ B.drop (at_ + L.length)).length = B.length := by simp; omega
  have := Bs.ofRow (w := w.setRow g (cur.toList.take at_ ++ bcells L ++ cur.toList.drop (at_ + (bcells L).length)).toArray) (g := g) (cap := cap) (B := B.take at_ ++ L ++ B.drop (at_ + L.length)) (setRow_heap _ g cur _ _ _ hg) (by rw [hlen]; exact hnc) hcm ?_ ?_
  · rw [hlen] at this; exact this
  · simp [bcells_len]; omega
  · rw [hlen]
    have e1 : cur.toList.take at_ = bcells (B.take at_) := by
      have : cur.toList.take at_ = (cur.toList.take B.length).take at_ := by rw [List.take_take, Nat.min_eq_left (by omega)]
      rw [this, htk]; simp [bcells]
    have e2 : (cur.toList.drop (at_ + (bcells L).length)).take (B.length - (at_ + L.length)) = bcells (B.drop (at_ + L.length)) := by
      rw [bcells_len, ← List.drop_take, htk]
      simp [bcells]
    simp only
    rw [List.take_append, e1, List.take_of_length_le (by simp [bcells_len]; omega)]
    have e3 : B.length - (bcells (B.take at_) ++ bcells L).length = B.length - (at_ + L.length) := by simp [bcells_len]; omega
    rw [e3, e2]
    simp [bcells]

/-- 'copy(d[at:], s)', s no longer than what is there -/
theorem wpList_copyBy (hgd : o.guard = none) (d s : Operand) (t : TypeId) (ho : o.op = .call { callee := .builtin .copy, args := #[d, s], argTypes := #[t, t] })
    {i0 : TypeInfo} (ht : P.underlying t = some (.slice 5)) (hi : P.info? 5 = some i0) (hsz : i0.size = 1)
    (v sv : Value) (B L : List UInt8) (at_ : Nat) (dv : Value) (hd : a.eval d = dv) (hs : a.eval s = sv) (h : Bs w v B) (hb : By w sv L) (hle : at_ + L.length ≤ B.length)
    (hdv : (∃ A c, dv = .slice A (B.length - at_) c) ∧ (at_ < B.length → ∃ g cap, v = .slice (some ⟨g, 0, none⟩) B.length cap ∧ ∃ c, dv = .slice (some ⟨g, at_, none⟩) (B.length - at_) c))
    (hK : ∀ w', Bs w' v (B.take at_ ++ L ++ B.drop (at_ + L.length)) → Kept (fun k => v.ownBlock = some k) w w' → wpList P ops Q rest (a.put o.dst (.int .i64 L.length)) w') :
    wpList P ops Q (o :: rest) a w := by
  obtain ⟨hdv1, hdv2⟩ := hdv
  refine wpList_plain hgd fun K hKK => ?_
  by_cases hL : L = []
  · subst hL
    obtain ⟨A, c, rfl⟩ := hb.any
    obtain ⟨A2, c2, rfl⟩ := hdv1
    simp only [List.length_nil] at hs hK
    have hr : (Builtin.copy_ #[t, t] o.type #[.slice A2 (B.length - at_) c2, .slice A 0 c]).run P w = .ok (.int .i64 0) w := by
      cases A <;> cases A2 <;> simp [Builtin.copy_, run_underlying ht, sizeOf, typeInfo, hi, Builtin.lenOf, Builtin.firstCells, loadCells, loadCellsFrom, storeCells, goInt]
    unfold Oper.wp
    simp [execOp, ho, resolve, invoke, builtin, hs, hd, hr, Result.andThen]
    exact hKK _ _ (by simpa using hK w (by simpa using h) (Kept.refl _ w))
  · have hpos : 0 < L.length := List.length_pos_iff.2 hL
    obtain ⟨g, cap, rfl, c2, rfl⟩ := hdv2 (by omega)
    rcases hb with ⟨c, _, hL2⟩ | ⟨b, off, c, rfl, hbl, _, hc⟩
    · exact absurd hL2 hL
    · obtain ⟨w', hst, hB', hk⟩ := h.over (P := P) at_ L hle
      have hlo := run_loadCells_list (P := P) w ⟨b, off, none⟩ (bcells L) (fun j u hu => by rw [add_n]; exact hc j u hu)
      rw [bcells_len] at hlo
      have hmn : Nat.min (B.length - at_) L.length = L.length := Nat.min_eq_right (by omega)
      have hmn2 : L.length.min (B.length - at_) = L.length := Nat.min_eq_left (by omega)
      have hr : (Builtin.copy_ #[t, t] o.type #[.slice (some ⟨g, at_, none⟩) (B.length - at_) c2, .slice (some ⟨b, off, none⟩) L.length c]).run P w = .ok (.int .i64 L.length) w' := by
        simp [Builtin.copy_, run_underlying ht, sizeOf, typeInfo, hi, hsz, Builtin.lenOf, Builtin.firstCells, hmn, hmn2, hlo, hst, goInt]
      unfold Oper.wp
      simp [execOp, ho, resolve, invoke, builtin, hs, hd, hr, Result.andThen]
      exact hKK _ _ (hK w' hB' (hk.mono (fun k _ e => by simp [Value.ownBlock, e])))

/-- 'clear(b[:n])' -/
theorem wpList_clearBs (hgd : o.guard = none) (x : Operand) (t : TypeId) (ho : o.op = .call { callee := .builtin .clear, args := #[x], argTypes := #[t] })
    (ht : P.underlying t = some (.slice 5)) (hv : ∀ w, (zeroValue 5).run P w = .ok (.int .u8 0) w)
    (v : Value) (B : List UInt8) (n : Nat) (xv : Value) (hx : a.eval x = xv) (h : Bs w v B) (hle : n ≤ B.length)
    (hxv : (∃ A c, xv = .slice A n c) ∧ (0 < n → ∃ g cap, v = .slice (some ⟨g, 0, none⟩) B.length cap ∧ ∃ c, xv = .slice (some ⟨g, 0, none⟩) n c))
    (hK : ∀ w', Bs w' v (List.replicate n 0 ++ B.drop n) → Kept (fun k => v.ownBlock = some k) w w' → wpList P ops Q rest (a.put o.dst (.tuple #[])) w') :
    wpList P ops Q (o :: rest) a w := by
  obtain ⟨hx1, hx2⟩ := hxv
  refine wpList_plain hgd fun K hKK => ?_
  by_cases hn : n = 0
  · subst hn
    obtain ⟨A, c, rfl⟩ := hx1
    have hr : (Builtin.clear_ #[t] o.type #[.slice A 0 c]).run P w = .ok (.tuple #[]) w := by
      cases A <;> simp [Builtin.clear_, run_underlying ht]
    unfold Oper.wp
    simp [execOp, ho, resolve, invoke, builtin, hx, hr, Result.andThen]
    exact hKK _ _ (hK w (by simpa using h) (Kept.refl _ w))
  · obtain ⟨g, cap, rfl, c, rfl⟩ := hx2 (by omega)
    obtain ⟨w', hst, hB', hk⟩ := h.over (P := P) 0 (List.replicate n 0) (by simpa using hle)
    have hz : (Builtin.zeroCells (Value.int .u8 0).cells n).toList = bcells (List.replicate n 0) := by
      simp [Builtin.zeroCells, bcells, Value.cells]
      apply List.ext_getElem
      · simp
      · intro i h1 h2
        simp [Nat.mod_one]
    have hr : (Builtin.clear_ #[t] o.type #[.slice (some ⟨g, 0, none⟩) n c]).run P w = .ok (.tuple #[]) w' := by
      obtain ⟨m, rfl⟩ : ∃ m, n = m + 1 := ⟨n - 1, by omega⟩
      simp [Builtin.clear_, run_underlying ht, hv, hz, hst]
    unfold Oper.wp
    simp [execOp, ho, resolve, invoke, builtin, hx, hr, Result.andThen]
    refine hKK _ _ (hK w' ?_ (hk.mono (fun k _ e => by simp [Value.ownBlock, e])))
    simpa using hB'

/-- 'make([]byte, n)' -/
theorem wpList_makeBs (hgd : o.guard = none) (l c : Operand) (t : TypeId) (hop : o.op = Op.makeSlice t l c)
    {i0 : TypeInfo} (ht : P.underlying t = some (.slice 5)) (hi : P.info? 5 = some i0) (hz : i0.zero = some (.int .u8 0)) (hsz : i0.size = 1) (hby : i0.bytes = 1)
    (n : Nat) (hl : a.eval l = .int .i64 n) (hc : a.eval c = .int .i64 n) (hn : n ≤ 1099511627776)
    (hK : ∀ w', Bs w' (.slice (some ⟨w.heap.size, 0, none⟩) n n) (List.replicate n 0) → Kept (fun _ => False) w w' → wpList P ops Q rest (a.put o.dst (.slice (some ⟨w.heap.size, 0, none⟩) n n)) w') : wpList P ops Q (o :: rest) a w := by
  refine wpList_make_full w hgd l c t hop 0 5 i0 (.int .u8 0) 1 ht hi hz hsz .i64 .i64 n n n hl hc rfl rfl (by rw [hby]; omega) (by unfold maxLen; omega) (Nat.zero_le _) ?_
  intro w' h1 h2
  refine hK w' ⟨fun d hd => ?_, ?_⟩ (Kept.of_grown (Kept.refl _ w) h2 (fun k hk _ => by cases hk))
  · obtain ⟨u, _, rfl⟩ := List.mem_map.1 hd; rfl
  · rw [bcells_flat]
    have e : (madeCells (Value.int .u8 0).cells (n * 1)).toList = bcells (List.replicate n 0) := by
      rw [Nat.mul_one]
      apply List.ext_getElem
      · simp [madeCells, bcells]
      · intro i h3 h4
        simp [madeCells, bcells, Value.cells, Nat.mod_one]
    rw [e] at h1
    simpa using h1
end
end Go.Proofs.YtahabogjfcdjkaaGreat
