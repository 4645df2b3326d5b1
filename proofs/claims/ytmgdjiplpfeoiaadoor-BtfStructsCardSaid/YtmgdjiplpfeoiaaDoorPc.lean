import Derived.Test.YtmgdjiplpfeoiaaDoorPb
import Derived.Test.YtmgdjiplpfeoiaaDoorTh
set_option linter.unusedSimpArgs false
set_option linter.unusedVariables false
namespace Go.Proofs.YtmgdjiplpfeoiaaDoor

/-! ### a struct of fields one behind the other, in plain -/
def uT (s : Int) : Ty := ⟨1, [117, 110, 105, 116], s, false, 0, 0, []⟩
def sMb (d : Int) (k : Nat) : Mb := ⟨letL k, 1, 8 * (k : Int) * d⟩
def sMs (d : Int) (n : Nat) : List Mb := (List.range n).map (sMb d)
def sT (d : Int) (n : Nat) : Ty := ⟨4, [115], (n : Int) * d, false, 0, 0, sMs d n⟩
def sL (s d : Int) (n : Nat) : List Ty := [uT s, sT d n]

section
variable {s d : Int} {n : Nat}
theorem sMs_len : (sMs d n).length = n := by simp [sMs]
theorem sMs_at {k : Nat} {m : Mb} (h : (sMs d n)[k]? = some m) : k < n ∧ m = sMb d k := by
  have hk := (List.getElem?_eq_some_iff.1 h).1
  rw [sMs_len] at hk
  simp only [sMs, List.getElem?_map] at h
  rw [List.getElem?_range hk] at h
  simp at h
  exact ⟨hk, h.symm⟩
theorem sMs_mem {m : Mb} (h : m ∈ sMs d n) : ∃ k, k < n ∧ m = sMb d k := by
  simp only [sMs, List.mem_map, List.mem_range] at h
  obtain ⟨k, hk, rfl⟩ := h
  exact ⟨k, hk, rfl⟩
theorem sMs_next : sMs d (n + 1) = sMs d n ++ [sMb d n] := by simp [sMs, List.range_succ]
theorem mul_range (hd : 1 ≤ d) (hd16 : d ≤ 16) {k : Nat} (hk : k ≤ n) (hn : n ≤ 40) : 0 ≤ (k : Int) * d ∧ (k : Int) * d ≤ (n : Int) * d ∧ (n : Int) * d ≤ 640 := by
  refine ⟨Int.mul_nonneg (by omega) (by omega), Int.mul_le_mul_of_nonneg_right (by omega) (by omega), ?_⟩
  calc (n : Int) * d ≤ 40 * d := Int.mul_le_mul_of_nonneg_right (by omega) (by omega)
    _ ≤ 40 * 16 := Int.mul_le_mul_of_nonneg_left hd16 (by omega)
theorem sMb_div (d : Int) (k : Nat) : (sMb d k).bits.tdiv 8 = (k : Int) * d ∧ (sMb d k).bits / 8 = (k : Int) * d ∧ (sMb d k).bits % 8 = 0 := by
  have e : (sMb d k).bits = (k : Int) * d * 8 := by simp only [sMb]; rw [Int.mul_assoc, Int.mul_comm]
  rw [e]
  exact ⟨Int.mul_tdiv_cancel _ (by omega), Int.mul_ediv_cancel _ (by omega), Int.mul_emod_left _ _⟩
theorem sL_at {i : Nat} {t : Ty} (h : (sL s d n)[i]? = some t) : (i = 0 ∧ t = uT s) ∨ (i = 1 ∧ t = sT d n) := by
  match i, h with
  | 0, h => simp [sL] at h; exact .inl ⟨rfl, h.symm⟩
  | 1, h => simp [sL] at h; exact .inr ⟨rfl, h.symm⟩
  | i + 2, h => simp [sL] at h
theorem s_alone (hs : s = 1 ∨ s = 2 ∨ s = 4 ∨ s = 8) (hd : 1 ≤ d) (hd16 : d ≤ 16) (hn : n ≤ 40) : ∀ (i : Nat) (t : Ty), (sL s d n)[i]? = some t → aloneC (sL s d n) i t = 0 := by
  intro i t ht
  rcases sL_at ht with ⟨rfl, rfl⟩ | ⟨rfl, rfl⟩
  · unfold aloneC
    have h1 : calledB (sL s d n) 0 (uT s) = true := by
      unfold calledB
      have hb : namedB (uT s).kind = true := rfl
      rw [if_pos hb]
      simp only [List.take_zero, List.all_nil, Bool.true_and]
      show nameB [117, 110, 105, 116] = true
      decide
    have h2 : sizedB (uT s) = true := by
      unfold sizedB
      simp [uT]
      omega
    have h3 : membersB (uT s) = true := rfl
    have h4 : wholeB (uT s) (sL s d n).length = true := by
      unfold wholeB
      simp [uT, leastC, mostC]
    rw [if_neg (by simp [uT]), if_neg (by rw [h1]; simp), if_neg (by rw [h2]; simp), if_neg (by rw [h3]; simp), if_neg (by rw [h4]; simp)]
  · unfold aloneC
    have hr := mul_range (n := n) hd hd16 (Nat.le_refl n) hn
    have h1 : calledB (sL s d n) 1 (sT d n) = true := by
      unfold calledB
      have hb : namedB (sT d n).kind = true := rfl
      rw [if_pos hb]
      have e : (sL s d n).take 1 = [uT s] := rfl
      rw [e]
      have e2 : nameB (sT d n).name = true := by show nameB [115] = true; decide
      rw [e2]
      rfl
    have h2 : sizedB (sT d n) = true := by
      unfold sizedB
      have k1 : ¬ (sT d n).kind = 1 := by simp [sT]
      have k3 : ¬ (sT d n).kind = 3 := by simp [sT]
      have k4 : (sT d n).kind = 4 := rfl
      rw [if_neg k1, if_neg k3, if_pos k4, Bool.and_eq_true]
      exact ⟨decide_eq_true (by simp only [sT]; omega), decide_eq_true (by simp only [sT]; omega)⟩
    have h3 : membersB (sT d n) = true := by
      unfold membersB
      rw [List.all_eq_true]
      intro k hk
      have hk := List.mem_range.1 hk
      have hk2 : k < n := by simp only [sT, sMs_len] at hk; exact hk
      unfold memOk
      have hg : (sT d n).mem[k]? = some (sMb d k) := by simp only [sT, sMs, List.getElem?_map]; rw [List.getElem?_range hk2]; rfl
      rw [hg]
      simp only [Bool.or_eq_true, Bool.and_eq_true]
      refine .inr ⟨?_, letL_name k (by omega)⟩
      rw [List.all_eq_true]
      intro x hx
      obtain ⟨j, hj, e⟩ := List.mem_iff_getElem.1 hx
      rw [List.length_take] at hj
      have hj2 : (sT d n).mem[j]? = some x := by
        rw [← e, List.getElem_take]
        exact List.getElem?_eq_getElem _
      obtain ⟨hjn, rfl⟩ := sMs_at hj2
      have : ¬ (sMb d j).name = (sMb d k).name := fun h => by
        have := letL_inj j (by omega) k (by omega) h
        omega
      simpa using this
    have h4 : wholeB (sT d n) (sL s d n).length = true := by
      unfold wholeB
      have hall : (sT d n).mem.all (memIn (sT d n).kind ((sL s d n).length : Int)) = true := by
        rw [List.all_eq_true]
        intro m hm
        obtain ⟨k, _, rfl⟩ := sMs_mem hm
        simp [memIn, sMb, sT, sL]
      rw [hall]
      simp [sT, leastC, mostC]
    rw [if_neg (by simp [sT]), if_neg (by rw [h1]; simp), if_neg (by rw [h2]; simp), if_neg (by rw [h3]; simp), if_neg (by rw [h4]; simp)]
theorem s_succ {a b : Int} (h : b ∈ succL (sL s d n) a) : a = 2 ∧ b = 1 := by
  unfold succL at h
  cases ht : tyAt (sL s d n) a with
  | none => rw [ht] at h; cases h
  | some t =>
    rw [ht] at h
    obtain ⟨i, rfl, hi⟩ := tyAt_get ht
    rcases sL_at hi with ⟨rfl, rfl⟩ | ⟨rfl, rfl⟩
    · simp [uT, holdsL] at h
    · have e : holdsL (sT d n) = (sMs d n).map Mb.type := rfl
      simp only [e, List.mem_map] at h
      obtain ⟨m, hm, rfl⟩ := h
      obtain ⟨k, _, rfl⟩ := sMs_mem hm
      exact ⟨rfl, rfl⟩
theorem s_acyc : Acyc (sL s d n) := fun a h => by
  have hr : ∀ {x y : Int}, Reach (sL s d n) x y → x = 2 ∧ y = 1 := fun {x y} h => by
    induction h with
    | one h => exact s_succ h
    | more h _ ih => exact ⟨(s_succ h).1, ih.2⟩
  have := hr h
  omega
theorem s_ty1 : tyAt (sL s d n) 1 = some (uT s) := rfl
theorem s_ty2 : tyAt (sL s d n) 2 = some (sT d n) := rfl
theorem s_th1 : throughL (sL s d n) 1 = 1 := through_stop s_ty1 (by simp [uT])
theorem s_th2 : throughL (sL s d n) 2 = 2 := through_stop s_ty2 (by simp [sT])
theorem s_size1 (hs : s = 1 ∨ s = 2 ∨ s = 4 ∨ s = 8) (hd : 1 ≤ d) (hd16 : d ≤ 16) (hn : n ≤ 40) : sizeL (sL s d n) 1 = s := by
  rw [size_step (closed_of (s_alone hs hd hd16 hn)) s_acyc (t := uT s) (by rw [s_th1]; rfl)]
  simp [uT]
theorem s_size2 (hs : s = 1 ∨ s = 2 ∨ s = 4 ∨ s = 8) (hd : 1 ≤ d) (hd16 : d ≤ 16) (hn : n ≤ 40) : sizeL (sL s d n) 2 = (n : Int) * d := by
  rw [size_step (closed_of (s_alone hs hd hd16 hn)) s_acyc (t := sT d n) (by rw [s_th2]; rfl)]
  simp [sT]
theorem s_laidM (hs : s = 1 ∨ s = 2 ∨ s = 4 ∨ s = 8) (hsd : s ≤ d) (hd16 : d ≤ 16) (hn : n ≤ 40) : ∀ (j k : Nat) (e : Int), k + j = n → (k : Int) * d - d + s ≥ e ∨ (k = 0 ∧ e = 0) → laidM (sL s d n) ((n : Int) * d) ((List.range' k j).map (sMb d)) e = true := by
  intro j
  induction j with
  | zero => intro k e _ _; rfl
  | succ j ih =>
    intro k e hk he
    obtain ⟨_, e2, e3⟩ := sMb_div d k
    have hr := mul_range (n := n) (d := d) (by omega) hd16 (k := k) (by omega) hn
    have hr1 := mul_range (n := n) (d := d) (by omega) hd16 (k := k + 1) (by omega) hn
    have hkd : ((k + 1 : Nat) : Int) * d = (k : Int) * d + d := by rw [Int.natCast_add, Int.add_mul]; simp
    have hb0 : 0 ≤ (sMb d k).bits := by
      have : (sMb d k).bits = 8 * ((k : Int) * d) := by simp only [sMb]; rw [Int.mul_assoc]
      omega
    have hsz : sizeL (sL s d n) (sMb d k).type = s := s_size1 hs (by omega) hd16 hn
    rw [List.range'_succ, List.map_cons]
    simp only [laidM]
    rw [e2, e3, hsz, ih (k + 1) _ (by omega) (.inl (by omega))]
    have c1 : decide ((sMb d k).bits < 0) = false := decide_eq_false (by omega)
    have c2 : decide ((k : Int) * d < e) = false := decide_eq_false (by
      rcases he with he | ⟨rfl, rfl⟩
      · omega
      · simp)
    have c3 : decide ((n : Int) * d < (k : Int) * d) = false := decide_eq_false (by omega)
    have c4 : decide ((n : Int) * d - (k : Int) * d < s) = false := decide_eq_false (by omega)
    rw [c1, c2, c3, c4]
    rfl
theorem s_check (hs : s = 1 ∨ s = 2 ∨ s = 4 ∨ s = 8) (hsd : s ≤ d) (hd16 : d ≤ 16) (hn : n ≤ 40) : checkL (sL s d n) = (0, 0) := by
  refine check_zero (by simp [sL]) (fun t ht => ?_) (s_alone hs (by omega) hd16 hn) s_acyc (fun t ht => ?_) (fun i t ht => ?_)
  · simp [sL] at ht
    rcases ht with rfl | rfl
    · simp [uT]
    · simp only [sT, sMs_len]; omega
  · simp [sL] at ht
    rcases ht with rfl | rfl
    · simp [uT]
    · simp [sT]
  · rcases sL_at ht with ⟨rfl, rfl⟩ | ⟨rfl, rfl⟩
    · rfl
    · unfold laidB
      have k3 : ¬ (sT d n).kind = 3 := by simp [sT]
      have k4 : (sT d n).kind = 4 := rfl
      rw [if_neg k3, if_pos k4]
      have := s_laidM hs hsd hd16 hn n 0 0 (by omega) (.inr ⟨rfl, rfl⟩)
      rw [← List.range_eq_range'] at this
      exact this
theorem raw_s (hd : 1 ≤ d) (hd16 : d ≤ 16) (hn : n ≤ 40) : Raw (sL s d n) := by
  refine ⟨by simp [sL, maxLen], fun t ht => ?_, fun t ht m hm => ?_, fun t ht m hm => ?_⟩
  · simp [sL] at ht
    unfold maxLen
    rcases ht with rfl | rfl
    · simp [uT]
    · simp [sT]
  · simp [sL] at ht
    unfold maxLen
    rcases ht with rfl | rfl
    · simp [uT] at hm
    · obtain ⟨k, _, rfl⟩ := sMs_mem hm
      simp [sMb, letL]
  · simp [sL] at ht
    rcases ht with rfl | rfl
    · simp [uT] at hm
    · obtain ⟨k, hk, rfl⟩ := sMs_mem hm
      have hr := mul_range (n := n) (d := d) (by omega) hd16 (k := k) (by omega) hn
      have : (sMb d k).bits = 8 * ((k : Int) * d) := by simp only [sMb]; rw [Int.mul_assoc]
      omega
theorem s_sizeR (hs : s = 1 ∨ s = 2 ∨ s = 4 ∨ s = 8) (hsd : s ≤ d) (hd16 : d ≤ 16) (hn : n ≤ 40) : sizeR (sL s d n) 2 = ((n : Int) * d, 0) := by
  have hc := s_check hs hsd hd16 hn
  have hr : resolveL (sL s d n) 2 = (2, 0) := by
    unfold resolveL
    rw [hc, if_neg (by simp), if_neg (by simp [sL]), s_th2]
  unfold sizeR
  rw [hr]
  simp only
  rw [if_neg (by simp), if_neg (by unfold kindAt; rw [s_ty2]; simp [sT]), s_size2 hs (by omega) hd16 hn]
theorem s_member (hs : s = 1 ∨ s = 2 ∨ s = 4 ∨ s = 8) (hsd : s ≤ d) (hd16 : d ≤ 16) (hn : n ≤ 40) {off : Int} (k : Nat) (r : Int) (ho : off = (k : Int) * d + r) (hr0 : 0 ≤ r) (hrd : r < d) (j : Nat) : memberB (sL s d n) off 1 (sMb d j) = decide (j = k ∧ r < s) := by
  unfold memberB
  rw [(sMb_div d j).1, show sizeL (sL s d n) (sMb d j).type = s from s_size1 hs (by omega) hd16 hn, ho]
  by_cases hjk : j = k
  · subst hjk
    have e1 : decide ((j : Int) * d ≤ (j : Int) * d + r) = true := decide_eq_true (by omega)
    rw [e1]
    by_cases h : r < s
    · have e2 : decide ((j : Int) * d + r + 1 ≤ (j : Int) * d + s) = true := decide_eq_true (by omega)
      rw [e2]
      simp [h]
    · have e2 : decide ((j : Int) * d + r + 1 ≤ (j : Int) * d + s) = false := decide_eq_false (by omega)
      rw [e2]
      simp [h]
  · have hne : decide (j = k ∧ r < s) = false := decide_eq_false (fun h => hjk h.1)
    rw [hne]
    rcases Nat.lt_or_ge j k with h | h
    · have hm : (j : Int) * d + d ≤ (k : Int) * d := by
        have : ((j + 1 : Nat) : Int) * d ≤ (k : Int) * d := Int.mul_le_mul_of_nonneg_right (by omega) (by omega)
        have e : ((j + 1 : Nat) : Int) * d = (j : Int) * d + d := by rw [Int.natCast_add, Int.add_mul]; simp
        omega
      have e2 : decide ((k : Int) * d + r + 1 ≤ (j : Int) * d + s) = false := decide_eq_false (by omega)
      rw [e2, Bool.and_false]
    · have hm : (k : Int) * d + d ≤ (j : Int) * d := by
        have : ((k + 1 : Nat) : Int) * d ≤ (j : Int) * d := Int.mul_le_mul_of_nonneg_right (by omega) (by omega)
        have e : ((k + 1 : Nat) : Int) * d = (k : Int) * d + d := by rw [Int.natCast_add, Int.add_mul]; simp
        omega
      have e2 : decide ((j : Int) * d ≤ (k : Int) * d + r) = false := decide_eq_false (by omega)
      rw [e2, Bool.false_and]
theorem s_find {p : Mb → Bool} (d : Int) (k : Nat) (b : Bool) (hp : ∀ j, p (sMb d j) = decide (j = k ∧ b = true)) : ∀ n, (sMs d n).find? p = if b = true ∧ k < n then some (sMb d k) else none
  | 0 => by simp [sMs]
  | n + 1 => by
    rw [sMs_next, List.find?_append, s_find d k b hp n]
    by_cases hb : b = true
    · by_cases hk : k < n
      · rw [if_pos ⟨hb, hk⟩, if_pos ⟨hb, by omega⟩]
        rfl
      · rw [if_neg (fun h => hk h.2)]
        simp only [List.find?_cons, List.find?_nil, Option.none_or, hp]
        by_cases hkn : n = k
        · subst hkn
          simp [hb]
        · rw [if_neg (by omega)]
          simp [hkn]
    · rw [if_neg (fun h => hb h.1), if_neg (fun h => hb h.1)]
      simp [hp, hb]
theorem s_field (hs : s = 1 ∨ s = 2 ∨ s = 4 ∨ s = 8) (hsd : s ≤ d) (hd16 : d ≤ 16) (hn : n ≤ 40) {off : Int} (k : Nat) (r : Int) (ho : off = (k : Int) * d + r) (hr0 : 0 ≤ r) (hrd : r < d) (hk : k < n) :
    fieldR (sL s d n) 2 off 1 = if r < s then (46 :: letL k, 0) else ([], 41) := by
  have hsr := s_sizeR hs hsd hd16 hn
  have hr1 := mul_range (n := n) (d := d) (by omega) hd16 (k := k + 1) (by omega) hn
  have hr2 := mul_range (n := n) (d := d) (by omega) hd16 (k := k) (by omega) hn
  have e1 : ((k + 1 : Nat) : Int) * d = (k : Int) * d + d := by rw [Int.natCast_add, Int.add_mul]; simp
  unfold fieldR
  rw [hsr, if_neg (by simp)]
  have hnb : ¬ (off < 0 ∨ ¬ ((1 : Int) = 1 ∨ (1 : Int) = 2 ∨ (1 : Int) = 4 ∨ (1 : Int) = 8) ∨ (n : Int) * d < off ∨ (n : Int) * d - off < 1) := by
    rintro (h | h | h | h)
    · omega
    · exact h (.inl rfl)
    · omega
    · omega
  rw [if_neg hnb]
  have hf := s_find (p := memberB (sL s d n) off 1) d k (decide (r < s)) (fun j => by rw [s_member hs hsd hd16 hn k r ho hr0 hrd j]; simp) n
  have e2 : (sL s d n).length + 1 = 3 := rfl
  rw [e2]
  simp only [fieldN, s_th2, s_ty2]
  rw [if_neg (by simp [sT])]
  have e3 : (sT d n).mem = sMs d n := rfl
  have hm : memberR (sL s d n) off 1 (sMs d n) = if r < s then (sMb d k, true) else (mb0, false) := by
    unfold memberR
    rw [hf]
    by_cases hrs : r < s
    · rw [if_pos ⟨by simpa using hrs, hk⟩, if_pos hrs]
    · rw [if_neg (fun h => hrs (by simpa using h.1)), if_neg hrs]
  rw [e3, hm]
  by_cases hrs : r < s
  · rw [if_pos hrs, if_pos hrs]
    simp only [if_true]
    have e4 : (sMb d k).type = 1 := rfl
    rw [e4, s_th1, s_ty1, (sMb_div d k).1, s_size1 hs (by omega) hd16 hn]
    simp only
    rw [if_pos (by simp [uT]), if_neg (by omega)]
    rfl
  · rw [if_neg hrs, if_neg hrs]
    simp
end

end Go.Proofs.YtmgdjiplpfeoiaaDoor
