import Derived.Test.YtaehmaocibimeaaSg
import Derived.Test.YtaehmaocibimeaaO1
set_option linter.unusedSimpArgs false
set_option linter.unusedVariables false
namespace Go.Proofs.Ytaehmaocibimeaa
open Go.RowKit

/-! ### the document's wheel: a list of timers -/
structure RT where
  id : Int
  prog : Int
  at_ : Int
  set : Bool
  armed : Bool
  when : Int
  order : Int
def RT.cells (t : RT) : List Value := [.int .i64 t.id, .int .i64 t.prog, .int .i64 t.at_, .bool t.set, .bool t.armed, .int .u64 t.when, .int .i64 t.order]
theorem RT.cells_one (t : RT) : ∀ u ∈ t.cells, u.oneCell' = true := by simp [RT.cells, Value.oneCell']
theorem info82 : (Try.prog.info? 82).map (fun i => (i.zero, i.size, i.bytes)) = some (some (.agg #[.int .i64 0, .int .i64 0, .int .i64 0, .bool false, .bool false, .int .u64 0, .int .i64 0]), 7, 48) := by kernel_rfl
structure RS where
  now : Int
  l : List RT
  count : Int
structure IsR (w : World) (p : Nat) (v : Value) (R : RS) : Prop where
  blk : Blk w p 80 #[.int .u64 R.now, v, .int .i64 R.count]
  own : Sg w 82 7 v (R.l.map RT.cells)
  ne : v.ownBlock ≠ some p
  now0 : 0 ≤ R.now
  now1 : R.now < 18446744073709551616
  c0 : 0 ≤ R.count
  c1 : R.count ≤ 1000000
  small : R.l.length ≤ 1000000

def fpR (p : Nat) (v : Value) : Nat → Prop := fun k => k = p ∨ v.ownBlock = some k
theorem IsR.fp_lt {w : World} {p : Nat} {v : Value} {R : RS} (h : IsR w p v R) {k : Nat} (hk : fpR p v k) : k < w.heap.size := by
  rcases hk with rfl | hk
  · exact h.blk.lt
  · exact h.own.lt k hk
theorem IsR.kept {w w' : World} {p : Nat} {v : Value} {R : RS} {F : Nat → Prop} (h : IsR w p v R) (hk : Kept F w w') (hF : ∀ k, fpR p v k → ¬ F k) : IsR w' p v R :=
  ⟨hk.blk (hF p (.inl rfl)) h.blk, h.own.kept hk (fun g hg => hF g (.inr hg)), h.ne, h.now0, h.now1, h.c0, h.c1, h.small⟩
theorem RT.cellsAt {w : World} {g n c : Nat} {L : List RT} (h : Sg w 82 7 (.slice (some ⟨g, 0, none⟩) n c) (L.map RT.cells)) {i : Nat} (hi : i < L.length) :
   w.cell? ⟨g, i * 7, none⟩ = some (.int .i64 (L[i]).id) ∧ w.cell? ⟨g, i * 7 + 1, none⟩ = some (.int .i64 (L[i]).prog) ∧ w.cell? ⟨g, i * 7 + 2, none⟩ = some (.int .i64 (L[i]).at_)
   ∧ w.cell? ⟨g, i * 7 + 3, none⟩ = some (.bool (L[i]).set) ∧ w.cell? ⟨g, i * 7 + 4, none⟩ = some (.bool (L[i]).armed) ∧ w.cell? ⟨g, i * 7 + 5, none⟩ = some (.int .u64 (L[i]).when) ∧ w.cell? ⟨g, i * 7 + 6, none⟩ = some (.int .i64 (L[i]).order) := by
  have hc : (L.map RT.cells)[i]? = some (L[i]).cells := by simp [hi]
  exact ⟨h.cell hc (k := 0) (by omega), h.cell hc (k := 1) (by omega), h.cell hc (k := 2) (by omega), h.cell hc (k := 3) (by omega), h.cell hc (k := 4) (by omega), h.cell hc (k := 5) (by omega), h.cell hc (k := 6) (by omega)⟩

/-- the first place of an id -/
def posR : List RT → Int → Option Nat
  | [], _ => none
  | t :: r, id => if t.id = id then some 0 else (posR r id).map (· + 1)
def posI' (o : Option Nat) : Int := match o with | some i => i | none => -1
theorem posR_none {l : List RT} {id : Int} (h : ∀ j (hj : j < l.length), (l[j]).id ≠ id) : posR l id = none := by
  induction l with
  | nil => rfl
  | cons t r ih =>
    simp only [posR]
    have h0 : t.id ≠ id := h 0 (by simp)
    rw [if_neg h0, ih (fun j hj => h (j + 1) (by simpa using hj))]
    rfl
theorem posR_some {l : List RT} {id : Int} : ∀ {i : Nat} (hi : i < l.length), (l[i]).id = id → (∀ j (hj : j < i), (l[j]'(by omega)).id ≠ id) → posR l id = some i := by
  induction l with
  | nil => intro i hi; simp at hi
  | cons t r ih =>
    intro i hi h1 h2
    simp only [posR]
    cases i with
    | zero => rw [if_pos (by simpa using h1)]
    | succ i =>
      have h0 : t.id ≠ id := h2 0 (by omega)
      rw [if_neg h0, ih (i := i) (by simpa using hi) (by simpa using h1) (fun j hj => h2 (j + 1) (by omega))]
      rfl
theorem posR_at {l : List RT} {id : Int} : ∀ {i : Nat}, posR l id = some i → ∃ (hi : i < l.length), (l[i]).id = id := by
  induction l with
  | nil => intro i h; cases h
  | cons t r ih =>
    intro i h
    simp only [posR] at h
    split at h
    · cases h; exact ⟨by simp, by assumption⟩
    · cases hp : posR r id with
      | none => rw [hp] at h; cases h
      | some j =>
        rw [hp] at h
        simp only [Option.map_some, Option.some.injEq] at h
        subst h
        obtain ⟨h1, h2⟩ := ih hp
        exact ⟨by simpa using h1, by simpa using h2⟩

set_option maxHeartbeats 400000 in
theorem find_any (p : Nat) (v : Value) (R : RS) (id : Int) (w : World) (h : IsR w p v R) :
    Calls Try.prog 33 #[.pointer (some ⟨p, 0, none⟩), .int .i64 id] w fun e w' => e = .returned (.int .i64 (posI' (posR R.l id))) ∧ w = w' := by
  have hb := h.blk.cell
  obtain ⟨A, c, rfl⟩ := h.own.any
  have hsm := h.small
  have hown := h.own
  simp only [List.length_map] at hb hown
  go_enter Try.func33, Try.ntmps33
  go_wp2_with fail
  go_loopw [5] (fun iv wr => ∃ k : Nat, iv = .int .i64 k ∧ k ≤ R.l.length ∧ wr = w ∧ ∀ j (hj : j < R.l.length), j < k → (R.l[j]).id ≠ id) (fun iv _ => R.l.length - (intOf iv).toNat)
  case atStart => exact ⟨0, rfl, Nat.zero_le _, rfl, fun j _ hj => by omega⟩
  case round =>
    obtain ⟨k, rfl, hk, rfl, hno⟩ := hrel
    have HNO := Lib.hid hno
    clear hno
    by_cases hlt : k < R.l.length
    · obtain ⟨g, cap, hv, _, hg⟩ := hown.some_ (by simp; omega)
      simp only [Value.slice.injEq] at hv
      obtain ⟨rfl, -, rfl⟩ := hv
      obtain ⟨x0, _, _, _, _, _, _⟩ := RT.cellsAt hown hlt
      by_cases he : (R.l[k]).id = id
      · have hp : posR R.l id = some k := posR_some hlt he (fun j hj => HNO.out j (by omega) hj)
        have HP := Lib.hid hp
        clear hp
        rw [he] at x0
        go_wp2_with fail
        go_ret
        rw [HP.out]
        exact ⟨rfl, rfl⟩
      · have he' : ((R.l[k]).id == id) = false := by simpa using he
        have HE := Lib.hid he
        clear he
        generalize hq : (R.l[k]).id = q at *
        go_wp2_with fail
        go_roundw
        case rel => exact ⟨k + 1, by go_num, by omega, trivial, fun j hj hjk => by
          rcases Nat.lt_succ_iff_lt_or_eq.1 hjk with h1 | h1
          · exact HNO.out j hj h1
          · subst h1; rw [hq]; exact HE.out⟩
        case measure => simp [intOf]; omega
    · have hp : posR R.l id = none := posR_none (fun j hj => HNO.out j hj (by omega))
      have HP := Lib.hid hp
      clear hp
      obtain rfl : k = R.l.length := by omega
      go_wp2_with fail
      go_ret
      rw [HP.out]
      exact ⟨rfl, rfl⟩

end Go.Proofs.Ytaehmaocibimeaa
