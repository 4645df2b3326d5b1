import Derived.Test.YtmgdjiplpfeoiaaDoorUa
import Derived.Outline
import Derived.Deep.DeepCutAuto
import Derived.Deep.CutBlock
set_option linter.unusedSimpArgs false
set_option linter.unusedVariables false
namespace Go.Proofs.YtmgdjiplpfeoiaaDoor
open Go.RowKit

/-! ### the document's look at one type -/
def nameBad (t : Ty) : Bool := (namedB t.kind && !nameB t.name) || (!namedB t.kind && !(t.name == []))
def dupOk (l : List Ty) (i : Nat) (t : Ty) : Bool := (l.take i).all fun u => !(u.kind == t.kind && u.name == t.name)
theorem nameBad_called {l : List Ty} {i : Nat} {t : Ty} (h : nameBad t = true) : calledB l i t = false := by
  unfold nameBad at h
  unfold calledB
  cases hn : namedB t.kind <;> rw [hn] at h <;> simp_all
theorem dup_called {l : List Ty} {i : Nat} {t : Ty} (h : namedB t.kind = true) (h2 : dupOk l i t = false) : calledB l i t = false := by
  unfold dupOk at h2
  unfold calledB
  rw [if_pos h, h2]
  rfl
theorem called_ok {l : List Ty} {i : Nat} {t : Ty} (h : nameBad t = false) (h2 : namedB t.kind = true → dupOk l i t = true) : calledB l i t = true := by
  unfold nameBad at h
  unfold dupOk at h2
  unfold calledB
  cases hn : namedB t.kind <;> rw [hn] at h h2 <;> simp_all
theorem dup_next {l : List Ty} {t u : Ty} {k : Nat} (hu : l[k]? = some u) (h : dupOk l k t = true) : dupOk l (k + 1) t = !(u.kind == t.kind && u.name == t.name) := by
  unfold dupOk at *
  rw [List.take_add_one, hu, List.all_append, h]
  simp
theorem dup_bad {l : List Ty} {t u : Ty} {k i : Nat} (hu : l[k]? = some u) (hk : k < i) (h : (u.kind == t.kind && u.name == t.name) = true) : dupOk l i t = false := by
  unfold dupOk
  rw [List.all_eq_false]
  exact ⟨u, List.mem_of_getElem? (i := k) (by rw [List.getElem?_take_of_lt hk]; exact hu), by rw [h]; simp⟩
/-- a member's name, in the document's words -/
def mnB (kind : Int) (m : Mb) : Bool := nameB m.name || (kind == 6 && m.name == [])
def mdOk (ms : List Mb) (j : Nat) (m : Mb) : Bool := m.name == [] || (ms.take j).all fun x => !(x.name == m.name)
theorem memOk_eq {kind : Int} {ms : List Mb} {k : Nat} {m : Mb} (h : ms[k]? = some m) : memOk kind ms k = (mnB kind m && mdOk ms k m) := by
  unfold memOk mnB mdOk
  rw [h]
  simp only
  cases he : (m.name == []) with
  | true =>
    have : nameB m.name = false := nameB_short (.inl (by simp at he; rw [he]; decide))
    rw [this]
    cases (kind == 6) <;> simp
  | false => cases (kind == 6) <;> cases (nameB m.name) <;> simp
theorem md_next {ms : List Mb} {j : Nat} {m x : Mb} (hx : ms[j]? = some x) (h : mdOk ms j m = true) : mdOk ms (j + 1) m = (m.name == [] || !(x.name == m.name)) := by
  unfold mdOk at *
  rw [List.take_add_one, hx, List.all_append]
  cases he : (m.name == []) with
  | true => rfl
  | false =>
    rw [he, Bool.false_or] at h
    rw [Bool.false_or, Bool.false_or, h]
    simp
theorem md_bad {ms : List Mb} {j k : Nat} {m x : Mb} (hx : ms[j]? = some x) (hj : j < k) (h0 : (m.name == []) = false) (h : (x.name == m.name) = true) : mdOk ms k m = false := by
  unfold mdOk
  rw [h0, Bool.false_or, List.all_eq_false]
  exact ⟨x, List.mem_of_getElem? (i := j) (by rw [List.getElem?_take_of_lt hj]; exact hx), by rw [h]; simp⟩
theorem members_next {t : Ty} {k : Nat} (h : (List.range k).all (memOk t.kind t.mem) = true) : (List.range (k + 1)).all (memOk t.kind t.mem) = memOk t.kind t.mem k := by
  rw [List.range_succ, List.all_append, h]; simp
theorem members_bad {t : Ty} {k : Nat} (hk : k < t.mem.length) (h : memOk t.kind t.mem k = false) : membersB t = false := by
  unfold membersB
  rw [List.all_eq_false]
  exact ⟨k, List.mem_range.2 hk, by rw [h]; simp⟩
/-- where a type leads to -/
def toOk (t : Ty) (n : Int) : Bool := decide (leastC t.kind ≤ t.to) && decide (t.to ≤ mostC t.kind n)
def restOk (t : Ty) : Bool := t.size == (if t.kind = 1 ∨ t.kind = 4 then t.size else 0) && t.signed == (t.signed && t.kind == 1) && t.count == (if t.kind = 3 then t.count else 0) && t.mem.length == (if t.kind = 4 ∨ t.kind = 6 then t.mem.length else 0)
theorem whole_eq (t : Ty) (n : Int) : wholeB t n = (toOk t n && t.mem.all (memIn t.kind n) && restOk t) := by
  unfold wholeB toOk restOk
  cases t.mem.all (memIn t.kind n) <;> simp [Bool.and_assoc]
theorem alone44 {l : List Ty} {i : Nat} {t : Ty} (hk : ¬ (t.kind < 1 ∨ 6 < t.kind)) (h : calledB l i t = false) : aloneC l i t = 44 := by unfold aloneC; rw [if_neg hk, if_pos h]
theorem alone43 {l : List Ty} {i : Nat} {t : Ty} (hk : ¬ (t.kind < 1 ∨ 6 < t.kind)) (h : calledB l i t = true) (h2 : sizedB t = false) : aloneC l i t = 43 := by unfold aloneC; rw [if_neg hk, if_neg (by rw [h]; simp), if_pos h2]
theorem alone44m {l : List Ty} {i : Nat} {t : Ty} (hk : ¬ (t.kind < 1 ∨ 6 < t.kind)) (h : calledB l i t = true) (h2 : sizedB t = true) (h3 : membersB t = false) : aloneC l i t = 44 := by unfold aloneC; rw [if_neg hk, if_neg (by rw [h]; simp), if_neg (by rw [h2]; simp), if_pos h3]
theorem alone_whole {l : List Ty} {i : Nat} {t : Ty} (hk : ¬ (t.kind < 1 ∨ 6 < t.kind)) (h : calledB l i t = true) (h2 : sizedB t = true) (h3 : membersB t = true) : aloneC l i t = if wholeB t l.length = false then 41 else 0 := by unfold aloneC; rw [if_neg hk, if_neg (by rw [h]; simp), if_neg (by rw [h2]; simp), if_neg (by rw [h3]; simp)]

/-- the code of a function; what stands behind its first statements -/
def bodyOf (f : Func) : Code := f.body.getD .skip
def behind : Nat → Code → Code
  | n + 1, .seq _ b => behind n b
  | _, c => c

end Go.Proofs.YtmgdjiplpfeoiaaDoor
