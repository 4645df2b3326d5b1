import Derived.Test.YtmgdjiplpfeoiaaDoorTc
set_option linter.unusedSimpArgs false
set_option linter.unusedVariables false
namespace Go.Proofs.YtmgdjiplpfeoiaaDoor
open Go.RowKit

/-- each type may be, by itself; none holds itself -/
structure Good (l : List Ty) : Prop where
  fit : Fit l
  acyc : Acyc l
  alone : ∀ (i : Nat) (t : Ty), l[i]? = some t → aloneC l i t = 0
  bits : ∀ t ∈ l, ∀ m ∈ t.mem, -9223372036854775808 ≤ m.bits ∧ m.bits ≤ 9223372036854775807
theorem alone_sized {l : List Ty} {i : Nat} {t : Ty} (h : aloneC l i t = 0) : sizedB t = true ∧ wholeB t l.length = true ∧ 1 ≤ t.kind ∧ t.kind ≤ 6 := by
  unfold aloneC at h
  split at h
  · cases h
  · split at h
    · cases h
    · split at h
      · cases h
      · split at h
        · cases h
        · split at h
          · cases h
          · rename_i h1 _ h3 _ h5
            refine ⟨by simpa using h3, by simpa using h5, by omega, by omega⟩
theorem whole_closed {t : Ty} {n : Nat} (h : wholeB t n = true) : ∀ b ∈ holdsL t, 1 ≤ b ∧ b ≤ (n : Int) := by
  intro b hb
  unfold wholeB at h
  simp only [Bool.and_eq_true, List.all_eq_true, decide_eq_true_eq] at h
  unfold holdsL at hb
  split at hb
  · rename_i hk
    have hb := List.mem_singleton.1 hb
    subst hb
    have h1 := h.2.1.1.1.1.1
    have h2 := h.2.1.1.1.1.2
    unfold leastC at h1
    unfold mostC at h2
    rw [if_neg (by omega)] at h1 h2
    exact ⟨h1, h2⟩
  · split at hb
    · obtain ⟨m, hm, rfl⟩ := List.mem_map.1 hb
      have := h.1 m hm
      unfold memIn at this
      simp only [Bool.and_eq_true, decide_eq_true_eq] at this
      exact this.1
    · cases hb
theorem tyAt_get {l : List Ty} {id : Int} {t : Ty} (h : tyAt l id = some t) : ∃ i : Nat, id = (i : Int) + 1 ∧ l[i]? = some t := by
  unfold tyAt at h
  split at h
  · exact ⟨(id - 1).toNat, by omega, h⟩
  · cases h
theorem get_tyAt {l : List Ty} {i : Nat} {t : Ty} (h : l[i]? = some t) : tyAt l ((i : Int) + 1) = some t := by
  unfold tyAt
  rw [if_pos (by omega), show ((i : Int) + 1 - 1).toNat = i by omega]
  exact h
theorem closed_of {l : List Ty} (h : ∀ (i : Nat) (t : Ty), l[i]? = some t → aloneC l i t = 0) : Closed l := by
  intro a b hb
  unfold succL at hb
  cases ht : tyAt l a with
  | none => rw [ht] at hb; cases hb
  | some t =>
    rw [ht] at hb
    obtain ⟨i, _, hi⟩ := tyAt_get ht
    exact whole_closed (alone_sized (h i t hi)).2.1 b hb
theorem Good.closed {l : List Ty} (h : Good l) : Closed l := closed_of h.alone
theorem Good.sized {l : List Ty} (h : Good l) {id : Int} {t : Ty} (ht : tyAt l id = some t) : sizedB t = true ∧ wholeB t l.length = true ∧ 1 ≤ t.kind ∧ t.kind ≤ 6 := by
  obtain ⟨i, _, hi⟩ := tyAt_get ht
  exact alone_sized (h.alone i t hi)
theorem Good.size_range {l : List Ty} (h : Good l) : ∀ (f : Nat) (id : Int), rk l id < f → 1 ≤ id → id ≤ l.length → 0 ≤ sizeL l id ∧ sizeL l id ≤ 65537
  | 0, _, h0, _, _ => absurd h0 (Nat.not_lt_zero _)
  | f + 1, id, hr, h1, h2 => by
    obtain ⟨t, ht, hk5⟩ := through_at h.closed h.acyc h1 h2
    rw [size_step h.closed h.acyc ht]
    obtain ⟨hs, hw, hk1, hk6⟩ := h.sized ht
    split
    · omega
    · split
      · rename_i _ hk
        have h3 := rk_lt h.closed h.acyc (array_succ ht hk)
        have h4 : rk l (throughL l id) ≤ rk l id := through_rk h.closed h.acyc _ _
        have h5 := h.closed _ _ (array_succ ht hk)
        have ih := h.size_range f t.to (by omega) h5.1 h5.2
        unfold sizedB at hs
        rw [if_neg (by omega), if_pos hk] at hs
        simp only [Bool.and_eq_true, decide_eq_true_eq] at hs
        have := Int.mul_nonneg hs.1 ih.1
        omega
      · rename_i hk2 hk3
        unfold sizedB at hs
        unfold wholeB at hw
        simp only [Bool.and_eq_true, beq_iff_eq] at hw
        have hsz := hw.2.1.1.1.2
        by_cases hk : t.kind = 1
        · rw [if_pos hk] at hs
          simp only [Bool.or_eq_true, beq_iff_eq] at hs
          omega
        · by_cases hk4 : t.kind = 4
          · rw [if_neg hk, if_neg hk3, if_pos hk4] at hs
            simp only [Bool.and_eq_true, decide_eq_true_eq] at hs
            omega
          · rw [if_neg (by omega)] at hsz
            omega
theorem Good.count {l : List Ty} (h : Good l) {id : Int} {t : Ty} (ht : tyAt l id = some t) (hk : t.kind = 3) : 0 ≤ t.count ∧ t.count ≤ 65536 := by
  have hs := (h.sized ht).1
  unfold sizedB at hs
  rw [if_neg (by omega), if_pos hk] at hs
  simpa only [Bool.and_eq_true, decide_eq_true_eq] using hs

set_option maxHeartbeats 1000000 in
theorem through_any (l : List Ty) (a : Option Addr) (c : Nat) (i : Nat) (w : World) (h : Tys w (.slice a l.length c) l) (hg : Good l) (hi : i < l.length) :
    Calls Tryd.prog 23 #[.slice a l.length c, .int .i64 ((i : Int) + 1)] w fun e w' => e = .returned (.int .i64 (throughL l ((i : Int) + 1))) ∧ w = w' := by
  have h256 := hg.fit.len
  have hcl := hg.closed
  have hac := hg.acyc
  go_enter Tryd.func23, Tryd.ntmps23
  go_wp2
  go_loopw [1] (fun iv wr => ∃ k : Nat, iv = .int .i64 ((k : Int) + 1) ∧ k < l.length ∧ throughL l ((k : Int) + 1) = throughL l ((i : Int) + 1) ∧ w = wr) (fun iv _ => rk l (intOf iv))
  case atStart => exact ⟨i, rfl, hi, rfl, rfl⟩
  case round =>
    obtain ⟨k, rfl, hk, hth, rfl⟩ := hrel
    obtain ⟨t, ht⟩ : ∃ t, l[k]? = some t := ⟨_, List.getElem?_eq_getElem hk⟩
    obtain ⟨g, off, mv, rfl, hgl, hm, c0, c1, c2, c3, c4, c5, c6⟩ := h.at_ ht
    have hta := get_tyAt ht
    by_cases h5 : t.kind = 5
    · have hs := hcl _ _ (alias_succ hta h5)
      have hr := rk_lt hcl hac (alias_succ hta h5)
      have hst := through_alias hcl hac hta h5
      obtain ⟨k', hk'⟩ : ∃ k' : Nat, t.to = (k' : Int) + 1 := ⟨(t.to - 1).toNat, by omega⟩
      have HK := Lib.hid hk'
      have e5 : (t.kind == 5) = true := by simpa using h5
      clear h5 hk'
      go_wp2
      exact ⟨⟨k', by rw [HK.out], by have := HK.out; omega, by rw [← HK.out, ← hst]; exact hth, trivial⟩, by simpa [intOf] using hr⟩
    · have e5 : (t.kind == 5) = false := by simpa using h5
      have hst := through_stop hta h5
      clear h5
      go_wp2
      go_ret
      exact ⟨by rw [← hth, hst]; rfl, rfl⟩

end Go.Proofs.YtmgdjiplpfeoiaaDoor
