import Derived.Test.YtmgdjiplpfeoiaaDoorTp
set_option linter.unusedSimpArgs false
set_option linter.unusedVariables false
namespace Go.Proofs.YtmgdjiplpfeoiaaDoor
open Go.RowKit

/-! ### a list of types that is being made -/
theorem Mbs.keptF {F : Nat → Prop} {w w' : World} {v : Value} {ms : List Mb} (h : Mbs w v ms) (hk : Kept F w w') (hF : ∀ g, v.ownBlock = some g → ¬ F g) : Mbs w' v ms := by
  obtain ⟨a, c, rfl, hc⟩ := h
  refine ⟨a, c, rfl, fun i m hm => ?_⟩
  obtain ⟨g, off, rfl, hg, hcell⟩ := hc i m hm
  exact ⟨g, off, rfl, Nat.lt_of_lt_of_le hg hk.size, fun k u hu => by rw [hk.cell (p := ⟨g, off + i * 3 + k, none⟩) hg (hF g rfl)]; exact hcell k u hu⟩
def rowV (t : Ty) (v : Value) : List Value := (tyVals t v).toList
theorem rowV_len (t : Ty) (v : Value) : (rowV t v).length = 7 := rfl
/-- members that stand apart from a list's own block -/
def MbsApart (w : World) (lv v : Value) (t : Ty) : Prop := Mbs w v t.mem ∧ ∀ g, v.ownBlock = some g → g < w.heap.size ∧ lv.ownBlock ≠ some g
def TL (w : World) (B : Nat) (lv : Value) (l : List Ty) : Prop := ∃ mvs : List Value, mvs.length = l.length ∧ Sg w 38 7 lv (List.zipWith rowV l mvs) ∧ (∀ g, lv.ownBlock = some g → B ≤ g) ∧
  ∀ (i : Nat) (t : Ty) (v : Value), l[i]? = some t → mvs[i]? = some v → MbsApart w lv v t
section
variable {w w' : World} {B : Nat} {lv : Value} {l : List Ty}
theorem TL.nil (w : World) (B : Nat) : TL w B (.slice none 0 0) [] := ⟨[], rfl, Sg.nil _ _ _, fun g hg => by simp [Value.ownBlock] at hg, fun i t v h => by simp at h⟩
theorem TL.any (h : TL w B lv l) : ∃ A cap, lv = .slice A l.length cap := by
  obtain ⟨mvs, hl, hS, _⟩ := h
  obtain ⟨A, cap, rfl⟩ := hS.any
  exact ⟨A, cap, by simp [hl]⟩
theorem TL.kept (h : TL w B lv l) (hk : Kept (fun _ => False) w w') : TL w' B lv l := by
  obtain ⟨mvs, hl, hS, hB, hm⟩ := h
  refine ⟨mvs, hl, hS.kept hk (fun _ _ h => h), hB, fun i t v ht hv => ?_⟩
  obtain ⟨h1, h2⟩ := hm i t v ht hv
  exact ⟨h1.kept hk, fun g hg => ⟨Nat.lt_of_lt_of_le (h2 g hg).1 hk.size, (h2 g hg).2⟩⟩
theorem TL.tys (h : TL w B lv l) : Tys w lv l := by
  obtain ⟨mvs, hl, hS, hB, hm⟩ := h
  rcases hS.shape with ⟨rfl, hn⟩ | ⟨g, cap, rfl, hc, hg⟩
  · have : l.length = 0 := by
      have := congrArg List.length hn
      simpa [hl] using this
    have : l = [] := List.eq_nil_of_length_eq_zero this
    subst this
    exact ⟨none, 0, rfl, Nat.le_refl _, fun i t h => by simp at h⟩
  · have e : (List.zipWith rowV l mvs).length = l.length := by simp [hl]
    rw [e] at hc hS ⊢
    refine ⟨_, _, rfl, hc, fun i t ht => ?_⟩
    have hi := (List.getElem?_eq_some_iff.1 ht).1
    have hv : mvs[i]? = some mvs[i] := List.getElem?_eq_getElem (by omega)
    refine ⟨g, 0, mvs[i], rfl, hg, (hm i t _ ht hv).1, fun k u hu => ?_⟩
    have hk : k < 7 := (Array.getElem?_eq_some_iff.1 hu).1
    have := hS.cell (i := i) (c := rowV t mvs[i]) (by rw [List.getElem?_zipWith, ht, hv]) hk
    rw [Nat.zero_add, this]
    rw [← Array.getElem?_toList] at hu
    exact hu
end
theorem rowV_one (t : Ty) (v : Value) (hv : v.oneCell' = true) : ∀ u ∈ rowV t v, u.oneCell' = true := by
  intro u hu
  simp [rowV] at hu
  rcases hu with rfl | rfl | rfl | rfl | rfl | rfl | rfl <;> first | rfl | exact hv
section
variable {ops : Array Oper} {rest : List Oper} {o : Oper} {a : Act} {Q : Exit → Act → World → Prop}
/-- 'l = append(l, t)', behind the making of t's own row -/
theorem wpList_pushT {w : World} (hgd : o.guard = none) (s x : Operand) (ho : o.op = .call { callee := .builtin .append, args := #[s, x], argTypes := #[22, 22] })
    (B : Nat) (lv : Value) (l : List Ty) (t : Ty) (v : Value) (cs : Array Value) (hcs : cs = tyVals t v) (hs : a.eval s = lv) (hx : a.eval x = .slice (some ⟨w.heap.size, 0, none⟩) 1 1)
    (h : TL w B lv l) (hm : MbsApart w lv v t) (hv : v.oneCell' = true) (hlen : l.length < 1073741824) (hB : B ≤ w.heap.size)
    (hK : ∀ g cap w', TL w' B (.slice (some ⟨g, 0, none⟩) (l.length + 1) cap) (l ++ [t]) → Kept (fun k => lv.ownBlock = some k) w w' → wpList Tryd.prog ops Q rest (a.put o.dst (.slice (some ⟨g, 0, none⟩) (l.length + 1) cap)) w') :
    wpList Tryd.prog ops Q (o :: rest) a (w.alloc (.cells cs 38)) := by
  subst hcs
  obtain ⟨i0, hI0, hI1, hI2, hI3⟩ := info_parts infoT
  obtain ⟨mvs, hl, hS, hBl, hms⟩ := h
  have e : (List.zipWith rowV l mvs).length = l.length := by simp [hl]
  refine wpList_pushG (w := w) hgd s x 22 ho Tryd.underlying22 hI0 hI1 hI2 hI3 rfl (by omega) lv (List.zipWith rowV l mvs) (rowV t v) hs hx hS rfl (rowV_one t v hv) (by rw [e]; exact hlen) (by omega) ?_
  intro g cap w' hS' hk hg
  rw [e] at hS' ⊢
  refine hK g cap w' ⟨mvs ++ [v], by simp [hl], ?_, ?_, ?_⟩ hk
  · rw [List.zipWith_append (by omega)]
    exact hS'
  · intro g' hg'
    simp only [Value.ownBlock, Option.some.injEq] at hg'
    subst hg'
    rcases hg with hg | hg
    · exact hBl _ hg
    · omega
  · intro i t' v' ht hv'
    have hap : MbsApart w lv v' t' := by
      by_cases hi : i < l.length
      · rw [List.getElem?_append_left hi] at ht
        rw [List.getElem?_append_left (by omega)] at hv'
        exact hms i t' v' ht hv'
      · have hi2 := (List.getElem?_eq_some_iff.1 ht).1
        simp at hi2
        have : i = l.length := by omega
        subst this
        rw [List.getElem?_append_right (by omega)] at ht
        rw [List.getElem?_append_right (by omega), hl] at hv'
        simp at ht hv'
        subst ht hv'
        exact hm
    obtain ⟨h1, h2⟩ := hap
    refine ⟨h1.keptF hk (fun g' hg' h => (h2 g' hg').2 h), fun g' hg' => ⟨Nat.lt_of_lt_of_le (h2 g' hg').1 hk.size, ?_⟩⟩
    intro h3
    simp only [Value.ownBlock, Option.some.injEq] at h3
    subst h3
    obtain ⟨h4, h5⟩ := h2 _ hg'
    rcases hg with hg | hg
    · exact h5 hg
    · omega
end
theorem MbsApart.nil (w : World) (lv : Value) {t : Ty} (h : t.mem = []) : MbsApart w lv (.slice none 0 0) t := ⟨by rw [h]; exact Mbs.nil w, fun g hg => by simp [Value.ownBlock] at hg⟩

end Go.Proofs.YtmgdjiplpfeoiaaDoor
