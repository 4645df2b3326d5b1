import Derived.Test.YtopdoanfpjaehaaNs
import Derived.Test.YtopdoanfpjaehaaKqa
import Derived.Test.YtopdoanfpjaehaaOs
set_option linter.unusedSimpArgs false
set_option linter.unusedVariables false
namespace Go.Proofs.Ytopdoanfpjaehaa
open Go.RowKit

/-! ### a number that goes from register to register -/
def atC (R : List Int) : Nat → Int
  | 0 => 1
  | i + 1 => R.getD i 0 % 10
def movI (d s : Int) : In := ⟨191, d, s, 0, 0⟩
def inA7 : In := ⟨183, 1, 0, 0, 7⟩
def exV : In := ⟨149, 0, 0, 0, 0⟩
def chP (R : List Int) (i : Nat) : In := if i = 0 then inA7 else if i ≤ R.length then movI (atC R i) (atC R (i - 1)) else if i = R.length + 1 then movI 0 (atC R R.length) else exV
def chL (R : List Int) : List In := (List.range (R.length + 3)).map (chP R)
theorem ch_len (R : List Int) : (chL R).length = R.length + 3 := by simp [chL]
theorem ch_at (R : List Int) {i : Nat} (h : i < R.length + 3) : (chL R)[i]? = some (chP R i) := by
  unfold chL
  rw [List.getElem?_map, List.getElem?_range h]
  rfl
theorem atC_ok (R : List Int) (i : Nat) : 0 ≤ atC R i ∧ atC R i ≤ 9 := by
  cases i with
  | zero => show 0 ≤ (1 : Int) ∧ (1 : Int) ≤ 9; omega
  | succ i => show 0 ≤ R.getD i 0 % 10 ∧ R.getD i 0 % 10 ≤ 9; omega
theorem movI_ok {d s : Int} (hd : 0 ≤ d ∧ d ≤ 9) (hs : 0 ≤ s ∧ s ≤ 9) : InOk (movI d s) := ⟨by show (0 : Int) ≤ 191 ∧ (191 : Int) ≤ 255; omega, by show 0 ≤ d ∧ d ≤ 255; omega, by show 0 ≤ s ∧ s ≤ 255; omega, by show (-32768 : Int) ≤ 0 ∧ (0 : Int) ≤ 32767; omega, by show (-2147483648 : Int) ≤ 0 ∧ (0 : Int) ≤ 2147483647; omega⟩
theorem chP_ok (R : List Int) (i : Nat) : InOk (chP R i) := by
  have h1 := atC_ok R i
  have h2 := atC_ok R (i - 1)
  have h3 := atC_ok R R.length
  unfold chP
  split
  · exact ⟨by decide, by decide, by decide, by decide, by decide⟩
  · split
    · exact movI_ok h1 h2
    · split
      · exact movI_ok (by omega) h3
      · exact ⟨by decide, by decide, by decide, by decide, by decide⟩
theorem ch_ok {R : List Int} (h : R.length ≤ 40) : InsOk (chL R) := ⟨by rw [ch_len]; omega, fun x hx => by
  obtain ⟨i, _, rfl⟩ := List.mem_map.1 hx
  exact chP_ok R i⟩
theorem mov_known (d s : Int) : knownB (movI d s) = true := rfl
theorem mov_reads (d s : Int) : readsN (movI d s) = bitN s := rfl
theorem mov_writes (d s : Int) : writesN (movI d s) = bitN d := rfl
theorem mov_wrong (l : List In) (i : Nat) {d s : Int} (hd : 0 ≤ d ∧ d ≤ 9) (hs : 0 ≤ s ∧ s ≤ 9) : wrongC l i (movI d s) = 0 := by
  unfold wrongC
  rw [mov_known]
  have e1 : decide (10 < (movI d s).dst) = false := decide_eq_false (by show ¬ 10 < d; omega)
  have e2 : decide (10 < (movI d s).src) = false := decide_eq_false (by show ¬ 10 < s; omega)
  have e3 : ((movI d s).dst == 10) = false := by
    show (d == 10) = false
    simp
    omega
  rw [e1, e2, e3]
  rfl
theorem chP_mid (R : List Int) {i : Nat} (h : i < R.length + 2) : ∃ d s, 0 ≤ d ∧ d ≤ 9 ∧ 0 ≤ s ∧ s ≤ 9 ∧ (i = 0 ∧ chP R i = inA7 ∨ chP R i = movI d s) ∧ (0 < i → chP R i = movI d s ∧ s = atC R (i - 1)) ∧ writesN (chP R i) = bitN d ∧ (chP R i).dst = d ∧ (i ≤ R.length → d = atC R i) ∧ (i = R.length + 1 → d = 0) := by
  have h1 := atC_ok R i
  have h2 := atC_ok R (i - 1)
  have h3 := atC_ok R R.length
  by_cases e0 : i = 0
  · subst e0
    exact ⟨1, 0, by omega, by omega, by omega, by omega, .inl ⟨rfl, rfl⟩, fun h => by omega, rfl, rfl, fun _ => rfl, fun h => by omega⟩
  · by_cases e1 : i ≤ R.length
    · have e : chP R i = movI (atC R i) (atC R (i - 1)) := by unfold chP; rw [if_neg e0, if_pos e1]
      rw [e]
      exact ⟨atC R i, atC R (i - 1), h1.1, h1.2, h2.1, h2.2, .inr rfl, fun _ => ⟨rfl, rfl⟩, rfl, rfl, fun _ => rfl, fun h => by omega⟩
    · have e2 : i = R.length + 1 := by omega
      have e : chP R i = movI 0 (atC R R.length) := by unfold chP; rw [if_neg e0, if_neg e1, if_pos e2]
      rw [e]
      refine ⟨0, atC R R.length, by omega, by omega, h3.1, h3.2, .inr rfl, fun _ => ⟨rfl, ?_⟩, rfl, rfl, fun h => by omega, fun _ => rfl⟩
      rw [e2]
      rfl
theorem chP_end (R : List Int) : chP R (R.length + 2) = exV := by unfold chP; rw [if_neg (by omega), if_neg (by omega), if_neg (by omega)]
theorem ch_plain {R : List Int} (h : R.length ≤ 40) : Plain (chL R) where
  one := by rw [ch_len]; omega
  most := by rw [ch_len]; omega
  mid := fun i x hx hi => by
    rw [ch_len] at hi
    rw [ch_at R (by omega)] at hx
    cases hx
    obtain ⟨d, s, a1, a2, a3, a4, hc, _⟩ := chP_mid R (i := i) (by omega)
    rcases hc with ⟨_, e⟩ | e
    · rw [e]
      exact ⟨by decide, rfl, rfl, by decide, by decide, rfl⟩
    · rw [e]
      exact ⟨by show (191 : Int) ≠ 24; decide, rfl, rfl, by show (191 : Int) ≠ 149; decide, by show (191 : Int) ≠ 5; decide, mov_wrong _ _ ⟨a1, a2⟩ ⟨a3, a4⟩⟩
  last := fun x hx => by
    rw [ch_len, show R.length + 3 - 1 = R.length + 2 from rfl, ch_at R (by omega), chP_end] at hx
    cases hx
    exact ⟨rfl, rfl⟩
theorem less_self {d : Int} (h : 0 ≤ d ∧ d ≤ 9) : lessN (bitN d) (bitN d) = 0 := by
  rcases (by omega : d = 0 ∨ d = 1 ∨ d = 2 ∨ d = 3 ∨ d = 4 ∨ d = 5 ∨ d = 6 ∨ d = 7 ∨ d = 8 ∨ d = 9) with rfl | rfl | rfl | rfl | rfl | rfl | rfl | rfl | rfl | rfl <;> decide
theorem bit_self {d : Int} (h : 0 ≤ d ∧ d ≤ 9) : (((bitN d &&& bitN d : Nat) : Int) == 0) = false := by
  rcases (by omega : d = 0 ∨ d = 1 ∨ d = 2 ∨ d = 3 ∨ d = 4 ∨ d = 5 ∨ d = 6 ∨ d = 7 ∨ d = 8 ∨ d = 9) with rfl | rfl | rfl | rfl | rfl | rfl | rfl | rfl | rfl | rfl <;> decide
/-- what is live at a slot -/
def valC (R : List Int) (i : Nat) : Nat := if i = 0 then 0 else if i ≤ R.length + 1 then bitN (atC R (i - 1)) else 1
theorem val_next (R : List Int) {i : Nat} (h : i < R.length + 2) : ∃ d, 0 ≤ d ∧ d ≤ 9 ∧ writesN (chP R i) = bitN d ∧ (chP R i).dst = d ∧ valC R (i + 1) = bitN d := by
  obtain ⟨d, s, a1, a2, _, _, _, _, hw, hd, e1, e2⟩ := chP_mid R h
  refine ⟨d, a1, a2, hw, hd, ?_⟩
  unfold valC
  rw [if_neg (by omega)]
  by_cases e : i ≤ R.length
  · rw [if_pos (by omega), e1 e]
    rfl
  · rw [if_neg (by omega), e2 (by omega)]
    rfl
theorem ch_live {R : List Int} (h : R.length ≤ 40) {L : List Nat} (hL : LiveIs (chL R) L) : ∀ k, k ≤ R.length + 2 → L[R.length + 2 - k]? = some (valC R (R.length + 2 - k)) := by
  have hp := ch_plain h
  intro k
  induction k with
  | zero =>
    intro _
    have hx := ch_at R (i := R.length + 2) (by omega)
    rw [chP_end] at hx
    rw [Nat.sub_zero, hL.fix _ _ hx (hp.sec _ (by rw [ch_len]; omega))]
    have e : newN L (R.length + 2) exV = 1 := by
      unfold newN
      rw [show nextC (R.length + 2) exV = [] from rfl]
      show readsN exV ||| lessN 0 (writesN exV) = 1
      decide +kernel
    rw [e]
    unfold valC
    rw [if_neg (by omega), if_neg (by omega)]
  | succ k ih =>
    intro hk
    have ih := ih (by omega)
    obtain ⟨i, hi⟩ : ∃ i, R.length + 2 - (k + 1) = i := ⟨_, rfl⟩
    rw [hi]
    rw [show R.length + 2 - k = i + 1 from by omega] at ih
    have hx := ch_at R (i := i) (by omega)
    rw [hL.fix _ _ hx (hp.sec _ (by rw [ch_len]; omega))]
    obtain ⟨d, a1, a2, hw, _, hv⟩ := val_next R (i := i) (by omega)
    have hn := hp.next hx (by rw [ch_len]; omega)
    congr 1
    unfold newN
    rw [hn]
    have hb : behN L [(i : Int) + 1] = valC R (i + 1) := by
      show L.getD ((i : Int) + 1).toNat 0 ||| 0 = _
      rw [Nat.or_zero, show ((i : Int) + 1).toNat = i + 1 from by omega, List.getD_eq_getElem?_getD, ih]
      rfl
    rw [hb, hv, hw, less_self ⟨a1, a2⟩, Nat.or_zero]
    by_cases e0 : i = 0
    · subst e0
      rfl
    · obtain ⟨d2, s, _, _, _, _, _, he, _⟩ := chP_mid R (i := i) (by omega)
      obtain ⟨e, rfl⟩ := he (by omega)
      rw [e, mov_reads]
      unfold valC
      rw [if_neg e0, if_pos (by omega)]
theorem ch_val {R : List Int} (h : R.length ≤ 40) {L : List Nat} (hL : LiveIs (chL R) L) {i : Nat} (hi : i < R.length + 3) : L[i]? = some (valC R i) := by
  have := ch_live h hL (R.length + 2 - i) (by omega)
  rwa [show R.length + 2 - (R.length + 2 - i) = i from by omega] at this
theorem ch_dead {R : List Int} (h : R.length ≤ 40) {L : List Nat} (hL : LiveIs (chL R) L) : ∀ n, n ≤ R.length + 3 → deadU (chL R) L n = [] := by
  have hp := ch_plain h
  intro n
  induction n with
  | zero => intro _; rfl
  | succ i ih =>
    intro hn
    have hd : deadC (chL R) L i = false := by
      have hx := ch_at R (i := i) (by omega)
      unfold deadC
      rw [hx, hp.rchL (by rw [ch_len]; omega)]
      by_cases he : i = R.length + 2
      · subst he
        rw [chP_end]
        rfl
      · have hnx := hp.next hx (by rw [ch_len]; omega)
        obtain ⟨d, a1, a2, hw, hds, hv⟩ := val_next R (i := i) (by omega)
        have hb : behN L [(i : Int) + 1] = valC R (i + 1) := by
          show L.getD ((i : Int) + 1).toNat 0 ||| 0 = _
          rw [Nat.or_zero, show ((i : Int) + 1).toNat = i + 1 from by omega, List.getD_eq_getElem?_getD, ch_val h hL (by omega)]
          rfl
        simp only [hnx, hb, hv, hds, bit_self ⟨a1, a2⟩, Bool.and_false]
    rw [deadU_same hd]
    exact ih (by omega)

end Go.Proofs.Ytopdoanfpjaehaa
