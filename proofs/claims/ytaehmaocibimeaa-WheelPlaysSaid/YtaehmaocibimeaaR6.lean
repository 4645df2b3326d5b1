import Derived.Test.YtaehmaocibimeaaR5
set_option linter.unusedSimpArgs false
set_option linter.unusedVariables false
namespace Go.Proofs.Ytaehmaocibimeaa
open Go.RowKit

def RT.lt (a b : RT) : Bool := decide (a.when < b.when) || (a.when == b.when && decide (a.order < b.order))
def insL : List RT → RT → List RT
  | [], t => [t]
  | x :: r, t => if x.lt t then x :: insL r t else t :: x :: r
def dueL (to : Int) : List RT → List RT → List RT
  | [], out => out
  | t :: r, out => dueL to r (if t.armed = true ∧ t.when ≤ to then insL out t else out)

theorem insL_at : ∀ (out : List RT) (t : RT) (k : Nat), k ≤ out.length → (∀ j (hj : j < out.length), j < k → (out[j]).lt t = true) → (∀ hk : k < out.length, (out[k]).lt t = false) → insL out t = out.take k ++ t :: out.drop k
  | [], t, k, hk, _, _ => by
    obtain rfl : k = 0 := by simpa using hk
    rfl
  | x :: r, t, 0, _, _, h2 => by
    have h0 : x.lt t = false := h2 (by simp)
    simp only [insL, h0]
    rfl
  | x :: r, t, k + 1, hk, h1, h2 => by
    have h0 : x.lt t = true := h1 0 (by simp) (by omega)
    have ih := insL_at r t k (by simpa using hk) (fun j hj hjk => h1 (j + 1) (by simpa using hj) (by omega)) (fun hk => h2 (by simpa using hk))
    simp only [insL, h0, if_true, ih, List.take_succ_cons, List.drop_succ_cons, List.cons_append]
theorem insL_len (out : List RT) (t : RT) : (insL out t).length = out.length + 1 := by
  induction out with
  | nil => rfl
  | cons x r ih => simp only [insL]; split <;> simp [ih]
theorem dueL_app (to : Int) : ∀ (l : List RT) (t : RT) (out : List RT), dueL to (l ++ [t]) out = (if t.armed = true ∧ t.when ≤ to then insL (dueL to l out) t else dueL to l out)
  | [], t, out => rfl
  | x :: r, t, out => by
    simp only [List.cons_append, dueL]
    exact dueL_app to r t _

/-- the row behind the shift and the store -/
theorem shift_set {α : Type} (l : List α) (z t : α) (k : Nat) (hk : k ≤ l.length) :
    (((l ++ [z]).take (k + 1) ++ ((l ++ [z]).drop k).take (l.length + 1 - (k + 1))).set k t) = l.take k ++ t :: l.drop k := by
  apply List.ext_getElem?
  intro j
  rw [List.getElem?_set]
  by_cases hj : k = j
  · subst hj
    rw [if_pos rfl, if_pos (by simp; omega), List.getElem?_append_right (by simp; omega)]
    simp [Nat.min_eq_left hk]
  · rw [if_neg hj]
    rcases Nat.lt_or_ge j k with h | h
    · rw [List.getElem?_append_left (by simp; omega), List.getElem?_take_of_lt (by omega), List.getElem?_append_left (by omega), List.getElem?_append_left (by simp; omega), List.getElem?_take_of_lt h]
    · have hl1 : ((l ++ [z]).take (k + 1)).length = k + 1 := by simp; omega
      have hl2 : (l.take k).length = k := by simp; omega
      rw [List.getElem?_append_right (by omega), hl1, List.getElem?_append_right (by omega), hl2]
      obtain ⟨m, rfl⟩ : ∃ m, j = k + 1 + m := ⟨j - (k + 1), by omega⟩
      rw [show k + 1 + m - (k + 1) = m by omega, show k + 1 + m - k = m + 1 by omega, List.getElem?_cons_succ, List.getElem?_drop]
      rcases Nat.lt_or_ge m (l.length - k) with h2 | h2
      · rw [List.getElem?_take_of_lt (by omega), List.getElem?_drop, List.getElem?_append_left (by omega)]
      · rw [List.getElem?_eq_none (by simp; omega), List.getElem?_eq_none (by omega)]

end Go.Proofs.Ytaehmaocibimeaa
