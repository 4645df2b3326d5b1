import Derived.Test.YtdgniibolfahaaaKs
set_option linter.unusedSimpArgs false
set_option linter.unusedVariables false
namespace Go.Proofs.Ytdgniibolfahaaa
open Go.RowKit

/-! ### what is threaded is a program without a fault -/
theorem sec_congr : ∀ (p : Bool) {l t : List In}, l.map (·.op) = t.map (·.op) → secG p l = secG p t
  | p, [], [], _ => rfl
  | p, [], y :: t, h => by cases h
  | p, x :: l, [], h => by cases h
  | p, x :: l, y :: t, h => by
    simp only [List.map_cons, List.cons.injEq] at h
    simp only [secG]
    rw [h.1, sec_congr (y.op == 24 && !p) h.2]
structure Thr (l t : List In) : Prop where
  len : t.length = l.length
  get : ∀ (i : Nat) (x : In), l[i]? = some x → ∃ y, t[i]? = some y ∧ y.op = x.op ∧ y.dst = x.dst ∧ y.src = x.src ∧ y.imm = x.imm ∧
    (((secL l)[i]? = some true ∨ isJumpB x = false) → y = x) ∧
    ((secL l)[i]? = some false → isJumpB x = true → ∃ tgt f : Nat, (i : Int) + 1 + x.off = tgt ∧ FinR l tgt f ∧ f < l.length ∧ (secL l)[f]? = some false ∧ ofC (partsL l) f = ofC (partsL l) i ∧ y.off = (f : Int) - i - 1)
theorem thr_of {l t : List In} (h : ThrTo l t l.length) : Thr l t := by
  refine ⟨h.len, fun i x hx => ?_⟩
  have hi := (List.getElem?_eq_some_iff.1 hx).1
  rcases h.done i hi x hx with ⟨hs, hj, tgt, f, e, hf, h1, h2, h3, ht⟩ | ⟨hc, ht⟩
  · refine ⟨_, ht, rfl, rfl, rfl, rfl, fun hc => ?_, fun _ _ => ⟨tgt, f, e, hf, h1, h2, h3, rfl⟩⟩
    rcases hc with hc | hc
    · rw [hs] at hc; cases hc
    · rw [hj] at hc; cases hc
  · refine ⟨x, ht, rfl, rfl, rfl, rfl, fun _ => rfl, fun hs hj => ?_⟩
    rcases hc with hc | hc
    · rw [hs] at hc; cases hc
    · rw [hj] at hc; cases hc
section
variable {l t : List In}
theorem Thr.back (h : Thr l t) {i : Nat} {y : In} (hy : t[i]? = some y) : ∃ x, l[i]? = some x := by
  have := (List.getElem?_eq_some_iff.1 hy).1
  exact ⟨_, List.getElem?_eq_getElem (by rw [← h.len]; exact this)⟩
theorem thr_sec (h : Thr l t) : secL t = secL l := by
  refine (sec_congr false ?_).symm
  apply List.ext_getElem?
  intro i
  rw [List.getElem?_map, List.getElem?_map]
  cases hx : l[i]? with
  | none =>
    have : t[i]? = none := by
      rw [List.getElem?_eq_none_iff] at hx ⊢
      have := h.len
      omega
    rw [this]
  | some x =>
    obtain ⟨y, hy, e, _⟩ := h.get i x hx
    rw [hy]
    simp [e]
theorem thr_tgt (h : Thr l t) (i : Nat) : tgtC t i = tgtC l i := by
  unfold tgtC
  rw [thr_sec h]
  cases hx : l[i]? with
  | none =>
    have : t[i]? = none := by
      rw [List.getElem?_eq_none_iff] at hx ⊢
      have := h.len
      omega
    rw [this]
  | some x =>
    obtain ⟨y, hy, e1, e2, e3, e4, _⟩ := h.get i x hx
    rw [hy]
    cases hs : (secL l)[i]? with
    | none => rfl
    | some b =>
      cases b
      · simp only [call_op e1 e3, e4]
      · rfl
theorem thr_begins (h : Thr l t) : beginsL t = beginsL l := by
  unfold beginsL tgtsL
  rw [h.len, show tgtC t = tgtC l from funext (thr_tgt h)]
theorem thr_same (h : Thr l t) (i n : Nat) : SameP t i n ↔ SameP l i n := by
  unfold SameP
  rw [thr_begins h]
theorem thr_ok (hv : Va l) (hok : InsOk l) (h : Thr l t) : InsOk t := by
  refine ⟨by rw [h.len]; exact hok.len, fun y hy => ?_⟩
  obtain ⟨i, hi⟩ := List.mem_iff_getElem?.1 hy
  obtain ⟨x, hx⟩ := h.back hi
  have hxo := hok.at_ hx
  have hil := (List.getElem?_eq_some_iff.1 hx).1
  have hm := hv.most
  obtain ⟨y', hy', e1, e2, e3, e4, e5, e6⟩ := h.get i x hx
  rw [hi] at hy'
  cases hy'
  obtain ⟨b, hb⟩ := sec_get hil
  cases b
  case true => rw [e5 (.inl hb)]; exact hxo
  case false =>
    cases hj : isJumpB x
    case false => rw [e5 (.inr hj)]; exact hxo
    case true =>
      obtain ⟨tgt, f, _, _, hf, _, _, e⟩ := e6 hb hj
      exact ⟨by rw [e1]; exact hxo.op, by rw [e2]; exact hxo.dst, by rw [e3]; exact hxo.src, ⟨by omega, by omega⟩, by rw [e4]; exact hxo.imm⟩
theorem thr_whole (h : Thr l t) {i : Nat} {x y : In} (hx : l[i]? = some x) (hy : t[i]? = some y) (hs : (secL l)[i]? = some false) (h24 : x.op = 24) (e3 : y.src = x.src) : wholeB t i = wholeB l i := by
  unfold wholeB
  rw [hx, hy]
  cases hz : l[i + 1]? with
  | none =>
    have : t[i + 1]? = none := by
      rw [List.getElem?_eq_none_iff] at hz ⊢
      have := h.len
      omega
    rw [this]
  | some z =>
    have hi1 := (List.getElem?_eq_some_iff.1 hz).1
    have hs1 := sec_succ hx hs hi1
    rw [h24] at hs1
    obtain ⟨z', hz', _, _, _, _, e5, _⟩ := h.get (i + 1) z hz
    rw [hz', e5 (.inl hs1)]
    simp only [e3]
theorem thr_va (hv : Va l) (hok : InsOk l) (h : Thr l t) : Va t := by
  have hsec := thr_sec h
  have hz := slots_of hv.one hv.most hv.wr
  refine ⟨by rw [h.len]; exact hv.one, by rw [h.len]; exact hv.most, fun i y hy hs => ?_, by rw [thr_begins h]; exact hv.few, fun i y hy hs h149 h5 => ?_, fun i y hy hs hj => ?_⟩
  · obtain ⟨x, hx⟩ := h.back hy
    rw [hsec] at hs
    obtain ⟨y', hy', e1, e2, e3, e4, e5, e6⟩ := h.get i x hx
    rw [hy] at hy'
    cases hy'
    obtain ⟨hkn, hrg, hwd, hrs⟩ := wrong_rest (hv.wr i x hx hs)
    have hw : writesB y = writesB x := by unfold writesB clsI; rw [e1]
    have hkn' : knownB y = true := by
      cases hj : isJumpB x
      · rw [e5 (.inr hj)]; exact hkn
      · have : y = { x with off := y.off } := by
          obtain ⟨a1, a2, a3, a4, a5⟩ := x
          obtain ⟨b1, b2, b3, b4, b5⟩ := y
          simp only at e1 e2 e3 e4
          subst e1 e2 e3 e4
          rfl
        rw [this, known_off _ hj]
        exact hkn
    unfold wrongC
    rw [if_neg (by rw [hkn']; simp), e2, e3, hw, if_neg (by rw [hrg]; simp), e1]
    have hwh : (x.op == 24 && !wholeB t i) = false := by
      by_cases h24 : x.op = 24
      · rw [thr_whole h hx hy hs h24 e3]; exact hwd
      · have : (x.op == 24) = false := by simpa using h24
        rw [this]; rfl
    rw [if_neg (by rw [hwh]; simp)]
    unfold restC
    unfold restC at hrs
    rw [call_op e1 e3, e1, e4]
    have hcc : ∀ n, callC t n = callC l n := fun n => by unfold callC; rw [h.len, hsec]
    rw [hcc]
    exact hrs
  · obtain ⟨x, hx⟩ := h.back hy
    rw [hsec] at hs ⊢
    obtain ⟨y', hy', e1, e2, e3, e4, e5, e6⟩ := h.get i x hx
    rw [hy] at hy'
    cases hy'
    rw [e1] at h149 h5
    have hb : behI i y = behI i x := by unfold behI; rw [e1]
    rw [hb, h.len, thr_same h]
    exact hv.fall i x hx hs h149 h5
  · obtain ⟨x, hx⟩ := h.back hy
    rw [hsec] at hs ⊢
    obtain ⟨y', hy', e1, e2, e3, e4, e5, e6⟩ := h.get i x hx
    rw [hy] at hy'
    cases hy'
    have hjx : isJumpB x = true := by
      rw [← hj]
      unfold isJumpB clsI codeI
      rw [e1]
    obtain ⟨tgt, f, _, _, hf1, hf2, hf3, e⟩ := e6 hs hjx
    refine ⟨f, by omega, by rw [h.len]; exact hf1, hf2, (thr_same h i f).2 ((same_iff hz (List.getElem?_eq_some_iff.1 hx).1 hf1).2 hf3)⟩
end

end Go.Proofs.Ytdgniibolfahaaa
