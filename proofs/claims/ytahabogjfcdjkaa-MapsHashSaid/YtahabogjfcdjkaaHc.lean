import Derived.Test.YtahabogjfcdjkaaHb
set_option linter.unusedSimpArgs false
set_option linter.unusedVariables false
namespace Go.Proofs.Ytahabogjfcdjkaa
open Go.RowKit

theorem infoS : (Try.prog.info? 9).map (fun i => (i.zero, i.size, i.bytes)) = some (some (.string ⟨#[]⟩), 1, 16) := by kernel_rfl
theorem infoI : (Try.prog.info? 3).map (fun i => (i.zero, i.size, i.bytes)) = some (some (.int .i64 0), 1, 8) := by kernel_rfl

theorem cutHead1 {T E : TypeId} {i0 : TypeInfo} (ht : Try.prog.underlying T = some (.slice E)) (hI0 : Try.prog.info? E = some i0) (g n cap i : Nat) (hi : i ≤ cap) (w : World) :
    (Instr.sliceAt T (.slice (some ⟨g, 0, none⟩) n cap) none (some (.int .i64 i)) (some (.int .i64 i))).run Try.prog w = .ok (.slice (some ⟨g, 0, none⟩) i i) w := by
  simp [Instr.sliceAt, Instr.slice, run_underlying ht, Instr.sliceBounds, run_sliceBound, sizeOf, typeInfo, hI0, hi, add_n]
theorem cutTail1 {T E : TypeId} {i0 : TypeInfo} (ht : Try.prog.underlying T = some (.slice E)) (hI0 : Try.prog.info? E = some i0) (hI2 : i0.size = 1) (g n cap i : Nat) (hi : i ≤ n) :
    ∃ ad, (∀ w : World, (Instr.sliceAt T (.slice (some ⟨g, 0, none⟩) n cap) (some (.int .i64 i)) none none).run Try.prog w = .ok (.slice (some ad) (n - i) (cap - i)) w) ∧ (i < cap → ad = ⟨g, i * 1, none⟩) := by
  refine ⟨if cap = i then ⟨g, 0, none⟩ else ⟨g, i * 1, none⟩, fun w => ?_, fun h => if_neg (by omega)⟩
  simp [Instr.sliceAt, Instr.slice, run_underlying ht, Instr.sliceBounds, run_sliceBound, sizeOf, typeInfo, hI0, hI2, hi]
  split <;> simp [add_n]

/-! ### three slices, apart from one another and from F -/
structure T3 (w : World) (F : Nat → Prop) (b : Nat) (kv vv iv : Value) (K V I : List (List Value)) : Prop where
  k : Sg w 9 1 kv K
  v : Sg w 9 1 vv V
  i : Sg w 3 1 iv I
  kf : ∀ g, kv.ownBlock = some g → ¬ F g ∧ b ≤ g
  vf : ∀ g, vv.ownBlock = some g → ¬ F g ∧ b ≤ g
  if_ : ∀ g, iv.ownBlock = some g → ¬ F g ∧ b ≤ g
  kv_ : ∀ g, kv.ownBlock = some g → vv.ownBlock ≠ some g
  ki_ : ∀ g, kv.ownBlock = some g → iv.ownBlock ≠ some g
  vi_ : ∀ g, vv.ownBlock = some g → iv.ownBlock ≠ some g

section
variable {w w' : World} {F F' : Nat → Prop} {b : Nat} {kv vv iv x : Value} {K V I X : List (List Value)}
theorem T3.nil (w : World) (F : Nat → Prop) (b : Nat) : T3 w F b (.slice none 0 0) (.slice none 0 0) (.slice none 0 0) [] [] [] :=
  ⟨Sg.nil _ _ _, Sg.nil _ _ _, Sg.nil _ _ _, by simp [Value.ownBlock], by simp [Value.ownBlock], by simp [Value.ownBlock], by simp [Value.ownBlock], by simp [Value.ownBlock], by simp [Value.ownBlock]⟩
theorem T3.kept (h : T3 w F b kv vv iv K V I) (hk : Kept F w w') : T3 w' F b kv vv iv K V I :=
  ⟨h.k.kept hk (fun g hg => (h.kf g hg).1), h.v.kept hk (fun g hg => (h.vf g hg).1), h.i.kept hk (fun g hg => (h.if_ g hg).1), h.kf, h.vf, h.if_, h.kv_, h.ki_, h.vi_⟩
theorem T3.quiet (h : T3 w F b kv vv iv K V I) (hk : Kept (fun _ => False) w w') : T3 w' F b kv vv iv K V I := h.kept (hk.mono (fun _ _ e => e.elim))
theorem T3.drew (h : T3 w F b kv vv iv K V I) : T3 w.drew F b kv vv iv K V I := h.quiet ((Kept.refl _ w).drew)
theorem T3.far (h : T3 w F b kv vv iv K V I) (hf : ∀ n, F' n → F n ∨ w.heap.size ≤ n) : T3 w F' b kv vv iv K V I :=
  ⟨h.k, h.v, h.i,
    fun g hg => ⟨fun e => by rcases hf g e with e | e; exact (h.kf g hg).1 e; exact absurd (h.k.lt g hg) (by omega), (h.kf g hg).2⟩,
    fun g hg => ⟨fun e => by rcases hf g e with e | e; exact (h.vf g hg).1 e; exact absurd (h.v.lt g hg) (by omega), (h.vf g hg).2⟩,
    fun g hg => ⟨fun e => by rcases hf g e with e | e; exact (h.if_ g hg).1 e; exact absurd (h.i.lt g hg) (by omega), (h.if_ g hg).2⟩, h.kv_, h.ki_, h.vi_⟩
theorem T3.upd (h : T3 w F b kv vv iv K V I) (hk : Kept F w w') (hf : ∀ n, F' n → F n ∨ w.heap.size ≤ n) : T3 w' F' b kv vv iv K V I :=
  have h1 := h.far hf
  have h2 := h.kept hk
  ⟨h2.k, h2.v, h2.i, h1.kf, h1.vf, h1.if_, h.kv_, h.ki_, h.vi_⟩
theorem T3.setK (h : T3 w F b kv vv iv K V I) (hF : ∀ n, F n → n < w.heap.size) (hb : b ≤ w.heap.size) (hk : Kept (fun k => kv.ownBlock = some k) w w') (hs : Sg w' 9 1 x X) (ho : ∀ g, x.ownBlock = some g → kv.ownBlock = some g ∨ w.heap.size ≤ g) : T3 w' F b x vv iv X V I := by
  refine ⟨hs, h.v.kept hk (fun g hg e => h.kv_ g e hg), h.i.kept hk (fun g hg e => h.ki_ g e hg), fun g hg => ?_, h.vf, h.if_, fun g hg e => ?_, fun g hg e => ?_, h.vi_⟩
  · rcases ho g hg with e | e
    · exact h.kf g e
    · exact ⟨fun e2 => absurd (hF g e2) (by omega), by omega⟩
  · rcases ho g hg with e2 | e2
    · exact h.kv_ g e2 e
    · exact absurd (h.v.lt g e) (by omega)
  · rcases ho g hg with e2 | e2
    · exact h.ki_ g e2 e
    · exact absurd (h.i.lt g e) (by omega)
theorem T3.setV (h : T3 w F b kv vv iv K V I) (hF : ∀ n, F n → n < w.heap.size) (hb : b ≤ w.heap.size) (hk : Kept (fun k => vv.ownBlock = some k) w w') (hs : Sg w' 9 1 x X) (ho : ∀ g, x.ownBlock = some g → vv.ownBlock = some g ∨ w.heap.size ≤ g) : T3 w' F b kv x iv K X I := by
  refine ⟨h.k.kept hk (fun g hg e => h.kv_ g hg e), hs, h.i.kept hk (fun g hg e => h.vi_ g e hg), h.kf, fun g hg => ?_, h.if_, fun g hg e => ?_, h.ki_, fun g hg e => ?_⟩
  · rcases ho g hg with e | e
    · exact h.vf g e
    · exact ⟨fun e2 => absurd (hF g e2) (by omega), by omega⟩
  · rcases ho g e with e2 | e2
    · exact h.kv_ g hg e2
    · exact absurd (h.k.lt g hg) (by omega)
  · rcases ho g hg with e2 | e2
    · exact h.vi_ g e2 e
    · exact absurd (h.i.lt g e) (by omega)
theorem T3.setI (h : T3 w F b kv vv iv K V I) (hF : ∀ n, F n → n < w.heap.size) (hb : b ≤ w.heap.size) (hk : Kept (fun k => iv.ownBlock = some k) w w') (hs : Sg w' 3 1 x X) (ho : ∀ g, x.ownBlock = some g → iv.ownBlock = some g ∨ w.heap.size ≤ g) : T3 w' F b kv vv x K V X := by
  refine ⟨h.k.kept hk (fun g hg e => h.ki_ g hg e), h.v.kept hk (fun g hg e => h.vi_ g hg e), hs, h.kf, h.vf, fun g hg => ?_, h.kv_, fun g hg e => ?_, fun g hg e => ?_⟩
  · rcases ho g hg with e | e
    · exact h.if_ g e
    · exact ⟨fun e2 => absurd (hF g e2) (by omega), by omega⟩
  · rcases ho g e with e2 | e2
    · exact h.ki_ g hg e2
    · exact absurd (h.k.lt g hg) (by omega)
  · rcases ho g e with e2 | e2
    · exact h.vi_ g hg e2
    · exact absurd (h.v.lt g hg) (by omega)
end

/-! ### where a key stands -/
def Found (E : List (List UInt8 × Int)) (k : List UInt8) (n : Nat) (a : Int) : Prop := (a = -1 ∧ ∀ j y, j < n → E[j]? = some y → y.1 ≠ k) ∨ ∃ (j : Nat) (y : List UInt8 × Int), a = (j : Int) ∧ j < n ∧ E[j]? = some y ∧ y.1 = k
theorem Found.zero (E : List (List UInt8 × Int)) (k : List UInt8) : Found E k 0 (-1) := .inl ⟨rfl, fun j y h => absurd h (by omega)⟩
theorem Found.hit {E : List (List UInt8 × Int)} {k : List UInt8} {n : Nat} {y : List UInt8 × Int} (hy : E[n]? = some y) (e : y.1 = k) : Found E k (n + 1) (n : Int) := .inr ⟨n, y, rfl, Nat.lt_succ_self n, hy, e⟩
theorem Found.miss {E : List (List UInt8 × Int)} {k : List UInt8} {n : Nat} {a : Int} {y : List UInt8 × Int} (h : Found E k n a) (hy : E[n]? = some y) (e : y.1 ≠ k) : Found E k (n + 1) a := by
  rcases h with ⟨h1, h2⟩ | ⟨j, z, h1, h2, h3, h4⟩
  · refine .inl ⟨h1, fun j z hj hz => ?_⟩
    by_cases ej : j = n
    · subst ej
      rw [hy] at hz
      cases hz
      exact e
    · exact h2 j z (by omega) hz
  · exact .inr ⟨j, z, h1, by omega, h3, h4⟩

theorem lookS_none_of {α : Type} {k : List UInt8} : ∀ {l : List (List UInt8 × α)}, (∀ y ∈ l, y.1 ≠ k) → lookS l k = none
  | [], _ => rfl
  | (a, b) :: l, h => by
    simp only [lookS]
    rw [if_neg (h (a, b) (List.mem_cons_self ..))]
    exact lookS_none_of fun y hy => h y (List.mem_cons_of_mem _ hy)
theorem lookS_at {α : Type} {k : List UInt8} {u : α} : ∀ {l : List (List UInt8 × α)} {j : Nat}, (l.map (·.1)).Nodup → l[j]? = some (k, u) → lookS l k = some u ∧ delS l k = l.take j ++ l.drop (j + 1)
  | [], j, _, h => by simp at h
  | (a, b) :: l, 0, hn, h => by
    simp only [List.getElem?_cons_zero, Option.some.injEq, Prod.mk.injEq] at h
    obtain ⟨rfl, rfl⟩ := h
    simp [lookS, delS]
  | (a, b) :: l, j + 1, hn, h => by
    have hn' := List.nodup_cons.1 hn
    simp only [List.getElem?_cons_succ] at h
    have hne : a ≠ k := fun e => hn'.1 (by rw [e]; exact List.mem_map.2 ⟨(k, u), List.mem_of_getElem? h, rfl⟩)
    obtain ⟨h1, h2⟩ := lookS_at hn'.2 h
    simp only [lookS, delS]
    rw [if_neg hne, if_neg hne, h1, h2]
    simp
theorem Found.all {E : List (List UInt8 × Int)} {k : List UInt8} {a : Int} (hn : (E.map (·.1)).Nodup) (h : Found E k E.length a) : (a = -1 ∧ lookS E k = none) ∨ ∃ (j : Nat) (id : Int), a = (j : Int) ∧ E[j]? = some (k, id) ∧ lookS E k = some id ∧ delS E k = E.take j ++ E.drop (j + 1) := by
  rcases h with ⟨h1, h2⟩ | ⟨j, y, h1, h2, h3, h4⟩
  · refine .inl ⟨h1, lookS_none_of fun y hy => ?_⟩
    obtain ⟨j, hj, e⟩ := List.mem_iff_getElem.1 hy
    exact h2 j y hj (by rw [List.getElem?_eq_getElem hj, e])
  · obtain ⟨y1, y2⟩ := y
    simp only at h4
    subst h4
    have := lookS_at hn h3
    exact .inr ⟨j, y2, h1, h3, this⟩

/-! ### what the statement holds -/
def dfH (en : Int) : Df := ⟨2, 2, 3, en, false, 0⟩
structure HI (en : Int) (E : List (List UInt8 × Int)) (V : List (List UInt8)) (L : List Rg) : Prop where
  len : V.length = E.length
  k2 : ∀ y ∈ E, y.1.length = 2 ∧ y.2 ≤ (L.length : Int)
  nd : (E.map (·.2)).Nodup
  val : ∀ (n : Nat) (y : List UInt8 × Int) (l : List UInt8), E[n]? = some y → V[n]? = some l → ∃ (j : Nat) (r : Rg), y.2 = (j : Int) + 1 ∧ L[j]? = some r ∧ r.b = l

theorem HI.nil (en : Int) : HI en [] [] [] := ⟨rfl, by simp, by simp, by simp⟩
theorem mem_cut {α : Type} {l : List α} {j : Nat} {y : α} (h : y ∈ l.take j ++ l.drop (j + 1)) : y ∈ l := by
  rcases List.mem_append.1 h with h | h
  · exact List.mem_of_mem_take h
  · exact List.mem_of_mem_drop h
theorem cut_sub {α : Type} (l : List α) (j : Nat) : (l.take j ++ l.drop (j + 1)).Sublist l := by
  rw [← List.eraseIdx_eq_take_drop_succ]
  exact List.eraseIdx_sublist ..
theorem get_cut {α : Type} (l : List α) (j n : Nat) (hj : j < l.length) : (l.take j ++ l.drop (j + 1))[n]? = if n < j then l[n]? else l[n + 1]? := by
  rw [← List.eraseIdx_eq_take_drop_succ, List.getElem?_eraseIdx]
theorem HI.cut {en : Int} {E : List (List UInt8 × Int)} {V : List (List UInt8)} {L : List Rg} (h : HI en E V L) {j : Nat} (hj : j < E.length) : HI en (E.take j ++ E.drop (j + 1)) (V.take j ++ V.drop (j + 1)) L := by
  have hl := h.len
  refine ⟨by simp; omega, fun y hy => h.k2 y (mem_cut hy), (List.Sublist.map _ (cut_sub E j)).nodup h.nd, fun n y l hy hv => ?_⟩
  rw [get_cut _ _ _ hj] at hy
  rw [get_cut _ _ _ (by omega)] at hv
  split at hy
  · rw [if_pos (by assumption)] at hv
    exact h.val n y l hy hv
  · rw [if_neg (by assumption)] at hv
    exact h.val (n + 1) y l hy hv
theorem HI.over {en : Int} {E : List (List UInt8 × Int)} {V : List (List UInt8)} {L L' : List Rg} (h : HI en E V L) {j : Nat} {k l : List UInt8} {id : Int} (hj : E[j]? = some (k, id)) (hL : L'.map Rg.see = (L.map Rg.see).modify (id - 1).toNat fun c => (l, c.2)) : HI en E (V.set j l) L' := by
  have hl := h.len
  have hll : L'.length = L.length := by
    have := congrArg List.length hL
    simpa using this
  refine ⟨by simp [hl], fun y hy => by rw [hll]; exact h.k2 y hy, h.nd, fun n y u hy hv => ?_⟩
  obtain ⟨i0, r0, e0, g0, b0⟩ := h.val j (k, id) (V[j]'(by have := (List.getElem?_eq_some_iff.1 hj).1; omega)) hj (List.getElem?_eq_getElem _)
  simp only at e0
  subst e0
  rw [show ((i0 : Int) + 1 - 1).toNat = i0 by omega] at hL
  have hat : ∀ (m : Nat) (r : Rg), L[m]? = some r → ∃ r' : Rg, L'[m]? = some r' ∧ (r'.b = if i0 = m then l else r.b) := fun m r hr => by
    have := congrArg (fun z => z[m]?) hL
    simp only [List.getElem?_map, List.getElem?_modify, hr, Option.map_some, Option.map_eq_map] at this
    cases hr' : L'[m]? with
    | none => rw [hr'] at this; cases this
    | some r' =>
      rw [hr'] at this
      simp only [Option.map_some, Option.some.injEq] at this
      refine ⟨r', rfl, ?_⟩
      have h1 := congrArg (fun z : List UInt8 × Bool × Int × Bool => z.1) this
      simp only [Rg.see] at h1
      split at h1
      · rw [if_pos (by assumption)]; exact h1
      · rw [if_neg (by assumption)]; exact h1
  rw [List.getElem?_set] at hv
  by_cases ej : j = n
  · subst ej
    rw [hj] at hy
    cases hy
    obtain ⟨r', h1, h2⟩ := hat i0 r0 g0
    rw [if_pos rfl] at h2
    have : j < V.length := by have := (List.getElem?_eq_some_iff.1 hj).1; omega
    simp only [↓reduceIte, this, Option.some.injEq] at hv
    exact ⟨i0, r', rfl, h1, by rw [h2, hv]⟩
  · rw [if_neg ej] at hv
    obtain ⟨i1, r1, e1, g1, b1⟩ := h.val n y u hy hv
    obtain ⟨r', h1, h2⟩ := hat i1 r1 g1
    have hne : i0 ≠ i1 := fun e => by
      have hjl := (List.getElem?_eq_some_iff.1 hj).1
      have hnl := (List.getElem?_eq_some_iff.1 hy).1
      have hjv := (List.getElem?_eq_some_iff.1 hj).2
      have hnv := (List.getElem?_eq_some_iff.1 hy).2
      rcases Nat.lt_or_gt_of_ne ej with h3 | h3
      · have := List.pairwise_iff_getElem.1 h.nd j n (by simpa using hjl) (by simpa using hnl) h3
        simp [hjv, hnv, e1, e] at this
      · have := List.pairwise_iff_getElem.1 h.nd n j (by simpa using hnl) (by simpa using hjl) h3
        simp [hjv, hnv, e1, e] at this
    rw [if_neg hne] at h2
    exact ⟨i1, r', e1, h1, by rw [h2, b1]⟩
theorem HI.same {en : Int} {E : List (List UInt8 × Int)} {V : List (List UInt8)} {L L' : List Rg} (h : HI en E V L) (hL : L'.map Rg.see = L.map Rg.see) : HI en E V L' := by
  have hll : L'.length = L.length := by simpa using congrArg List.length hL
  refine ⟨h.len, fun y hy => by rw [hll]; exact h.k2 y hy, h.nd, fun n y u hy hv => ?_⟩
  obtain ⟨i1, r1, e1, g1, b1⟩ := h.val n y u hy hv
  have := congrArg (fun z => z[i1]?) hL
  simp only [List.getElem?_map, g1, Option.map_some] at this
  cases hr' : L'[i1]? with
  | none => rw [hr'] at this; cases this
  | some r' =>
    rw [hr'] at this
    simp only [Option.map_some, Option.some.injEq] at this
    exact ⟨i1, r', e1, hr', by rw [← b1]; exact congrArg (fun z : List UInt8 × Bool × Int × Bool => z.1) this⟩
theorem HI.push {en : Int} {E : List (List UInt8 × Int)} {V : List (List UInt8)} {L L' : List Rg} (h : HI en E V L) {k l : List UInt8} (hk : k.length = 2) (hL : L'.map Rg.see = L.map Rg.see ++ [(l, true, 0, false)]) : HI en (E ++ [(k, (L.length : Int) + 1)]) (V ++ [l]) L' := by
  have hl := h.len
  have hll : L'.length = L.length + 1 := by
    have := congrArg List.length hL
    simpa using this
  have hat : ∀ (m : Nat) (r : Rg), L[m]? = some r → ∃ r' : Rg, L'[m]? = some r' ∧ r'.b = r.b := fun m r hr => by
    have hm := (List.getElem?_eq_some_iff.1 hr).1
    have := congrArg (fun z => z[m]?) hL
    simp only [List.getElem?_map] at this
    rw [List.getElem?_append_left (by simpa using hm), List.getElem?_map, hr] at this
    cases hr' : L'[m]? with
    | none => rw [hr'] at this; cases this
    | some r' =>
      rw [hr'] at this
      simp only [Option.map_some, Option.some.injEq] at this
      exact ⟨r', rfl, congrArg (fun z : List UInt8 × Bool × Int × Bool => z.1) this⟩
  refine ⟨by simp [hl], fun y hy => ?_, ?_, fun n y u hy hv => ?_⟩
  · rcases List.mem_append.1 hy with hy | hy
    · have := h.k2 y hy
      exact ⟨this.1, by omega⟩
    · rw [List.mem_singleton.1 hy]
      exact ⟨hk, by simp only; omega⟩
  · rw [List.map_append, List.nodup_append]
    refine ⟨h.nd, by simp, fun a ha b hb hab => ?_⟩
    obtain ⟨y, hy, rfl⟩ := List.mem_map.1 ha
    rw [List.map_cons, List.map_nil, List.mem_singleton] at hb
    have := (h.k2 y hy).2
    omega
  · by_cases hn : n < E.length
    · rw [List.getElem?_append_left hn] at hy
      rw [List.getElem?_append_left (by omega)] at hv
      obtain ⟨i1, r1, e1, g1, b1⟩ := h.val n y u hy hv
      obtain ⟨r', h1, h2⟩ := hat i1 r1 g1
      exact ⟨i1, r', e1, h1, by rw [h2, b1]⟩
    · rw [List.getElem?_append_right (by omega)] at hy hv
      rw [hl] at hv
      cases hd : n - E.length with
      | succ m => rw [hd] at hy; simp at hy
      | zero =>
        rw [hd] at hy hv
        simp only [List.getElem?_cons_zero, Option.some.injEq] at hy hv
        subst hy
        subst hv
        have := congrArg (fun z => z[L.length]?) hL
        simp only [List.getElem?_map] at this
        rw [List.getElem?_append_right (by simp)] at this
        simp only [List.length_map, Nat.sub_self, List.getElem?_cons_zero] at this
        cases hr' : L'[L.length]? with
        | none => rw [hr'] at this; cases this
        | some r' =>
          rw [hr'] at this
          simp only [Option.map_some, Option.some.injEq] at this
          exact ⟨L.length, r', rfl, hr', congrArg (fun z : List UInt8 × Bool × Int × Bool => z.1) this⟩

end Go.Proofs.Ytahabogjfcdjkaa
