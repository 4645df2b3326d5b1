import Derived.Test.YtlkgmcacbfoijaaGreatProg
import Derived.WalkKit
import Derived.WalkSpells
import Derived.WalkLawsBesides
import Derived.Lib.Hide
import Derived.Deep.QuietTactic
import Derived.BigQuiet
import Derived.Deep.Draws
import Derived.Maps.AppendAt
import Derived.Deep.AppendLies
import Derived.Deep.RegionLaw
import Derived.Deep.DeepMust
set_option linter.unusedSimpArgs false
set_option linter.unusedVariables false
namespace Go.Proofs.YtlkgmcacbfoijaaGreat
open Go.RowKit

/-- block g of w is just these cells -/
def Blk (w : World) (g : Nat) (t : TypeId) (cs : Array Value) : Prop := w.heap[g]? = some (.cells cs t (0, 0))

section
variable {w w' : World} {g : Nat} {t : TypeId} {cs : Array Value}
theorem Blk.lt (h : Blk w g t cs) : g < w.heap.size := by
  rcases Nat.lt_or_ge g w.heap.size with hlt | hge
  · exact hlt
  · unfold Blk at h; rw [Array.getElem?_eq_none hge] at h; cases h
theorem Blk.cell (h : Blk w g t cs) (i : Nat) : w.cell? ⟨g, i, none⟩ = cs[i]? := cell_of_row w g i cs t (0, 0) h
theorem Blk.frozen (h : Blk w g t cs) (i : Nat) : w.frozen? ⟨g, i, none⟩ = false := by
  unfold Blk at h
  simp [World.frozen?, h]
theorem Blk.new (w : World) (t : TypeId) (cs : Array Value) : Blk (w.alloc (.cells cs t)) w.heap.size t cs := heap_alloc_new w _
theorem Blk.drew (h : Blk w g t cs) : Blk w.drew g t cs := h
theorem Blk.drewN (h : Blk w g t cs) (n : Nat) : Blk (w.drewN n) g t cs := h
theorem Blk.alloc (h : Blk w g t cs) (o : Obj) : Blk (w.alloc o) g t cs := (Below.heap_alloc w o g h.lt).trans h
theorem Blk.set_ (h : Blk w g t cs) (i : Nat) (u : Value) : Blk (w.setCell ⟨g, i, none⟩ u) g t (cs.setIfInBounds i u) := by
  unfold Blk at h ⊢
  simp [World.setCell, Array.getElem?_modify, h]
theorem Blk.far (h : Blk w g t cs) {p : Addr} (hp : g ≠ p.block) (u : Value) : Blk (w.setCell p u) g t cs := (Below.heap_setCell w p u g hp).trans h
end

/-- w' is w but for the blocks of F and new ones -/
structure Kept (F : Nat → Prop) (w w' : World) : Prop where
  os : w'.os = w.os
  tape : w'.tape = w.tape
  output : w'.output = w.output
  size : w.heap.size ≤ w'.heap.size
  block : ∀ k, k < w.heap.size → ¬ F k → w'.heap[k]? = w.heap[k]?

theorem Kept.refl (F : Nat → Prop) (w : World) : Kept F w w := ⟨rfl, rfl, rfl, Nat.le_refl _, fun _ _ _ => rfl⟩
theorem Kept.trans {F G : Nat → Prop} {a b c : World} (h : Kept F a b) (k : Kept G b c) (hG : ∀ x, x < a.heap.size → G x → F x) : Kept F a c :=
  ⟨k.os.trans h.os, k.tape.trans h.tape, k.output.trans h.output, Nat.le_trans h.size k.size,
    fun i hi hF => (k.block i (Nat.lt_of_lt_of_le hi h.size) (fun hg => hF (hG i hi hg))).trans (h.block i hi hF)⟩
theorem Kept.mono {F G : Nat → Prop} {a b : World} (h : Kept F a b) (hG : ∀ x, x < a.heap.size → F x → G x) : Kept G a b :=
  ⟨h.os, h.tape, h.output, h.size, fun i hi hn => h.block i hi (fun hf => hn (hG i hi hf))⟩
theorem Kept.drew {F : Nat → Prop} {a w : World} (h : Kept F a w) : Kept F a w.drew := ⟨h.os, h.tape, h.output, h.size, h.block⟩
theorem Kept.drewN {F : Nat → Prop} {a w : World} (h : Kept F a w) (n : Nat) : Kept F a (w.drewN n) := ⟨h.os, h.tape, h.output, h.size, h.block⟩
theorem Kept.alloc {F : Nat → Prop} {a w : World} (h : Kept F a w) (o : Obj) : Kept F a (w.alloc o) :=
  ⟨h.os, h.tape, h.output, by have := h.size; simp; omega, fun k hk hF => (Below.heap_alloc w o k (Nat.lt_of_lt_of_le hk h.size)).trans (h.block k hk hF)⟩
theorem Kept.setCell {F : Nat → Prop} {a w : World} (h : Kept F a w) {p : Addr} (hp : p.block < a.heap.size → F p.block) (u : Value) : Kept F a (w.setCell p u) :=
  ⟨h.os, h.tape, h.output, by have := h.size; simpa [World.setCell] using this,
    fun k hk hF => (Below.heap_setCell w p u k (fun e => hF (by subst e; exact hp hk))).trans (h.block k hk hF)⟩
theorem Kept.of_grown {a w w' : World} {F : Nat → Prop} {row : Option Nat} (h : Kept F a w) (hg : w.grownBy w' row) (hr : ∀ k, row = some k → k < a.heap.size → F k) : Kept F a w' :=
  ⟨hg.os.trans h.os, hg.tape.trans h.tape, hg.output.trans h.output, Nat.le_trans h.size hg.size,
    fun k hk hF => (hg.block k (Nat.lt_of_lt_of_le hk h.size) (fun e => hF (hr k e.symm hk))).trans (h.block k hk hF)⟩
theorem Kept.heap {F : Nat → Prop} {w w' : World} {g : Nat} {o : Obj} (h : Kept F w w') (hF : ¬ F g) (hb : w.heap[g]? = some o) : w'.heap[g]? = some o := by
  rw [h.block g (Array.getElem?_eq_some_iff.1 hb).1 hF]; exact hb
theorem Kept.blk {F : Nat → Prop} {w w' : World} {g : Nat} {t : TypeId} {cs : Array Value} (h : Kept F w w') (hF : ¬ F g) (hb : Blk w g t cs) : Blk w' g t cs := h.heap hF hb
theorem Kept.below {F : Nat → Prop} {w w' : World} {B : Nat} (h : Kept F w w') (hB : B ≤ w.heap.size) (hF : ∀ k, k < B → ¬ F k) : Below B w w' :=
  ⟨h.os, h.tape, h.output, h.size, fun k hk => h.block k (by omega) (hF k hk)⟩
theorem Kept.of_below {w w' : World} {B : Nat} (h : Below B w w') : Kept (fun k => B ≤ k) w w' :=
  ⟨h.os, h.tape, h.output, h.size, fun k _ hF => h.block k (by omega)⟩
theorem Kept.cell {F : Nat → Prop} {w w' : World} (h : Kept F w w') {p : Addr} (hp : p.block < w.heap.size) (hF : ¬ F p.block) : w'.cell? p = w.cell? p := World.cell?_of_block (w := w) (h.block p.block hp hF)
theorem Kept.frozen {F : Nat → Prop} {w w' : World} (h : Kept F w w') {p : Addr} (hp : p.block < w.heap.size) (hF : ¬ F p.block) : w'.frozen? p = w.frozen? p := World.frozen?_of_block (w := w) (h.block p.block hp hF)
theorem Kept.owns {F : Nat → Prop} {w w' : World} {base : Nat} {e : TypeId} {size n : Nat} {v : Value} {xs : List Value} (h : Kept F w w') (ho : w.ownsRow base e size v n xs) (hF : ∀ g, v.ownBlock = some g → ¬ F g) : w'.ownsRow base e size v n xs := by
  refine ⟨ho.1, ?_⟩
  rcases ho.2 with h1 | ⟨g, cap, cur, hv, hg, hh, r⟩
  · exact Or.inl h1
  · exact Or.inr ⟨g, cap, cur, hv, hg, h.heap (hF g (by rw [hv]; rfl)) hh, r⟩

end Go.Proofs.YtlkgmcacbfoijaaGreat

set_option linter.unusedSimpArgs false
set_option linter.unusedVariables false
namespace Go.Proofs.YtlkgmcacbfoijaaGreat

/-! ### how deep calls go: plain -/
abbrev DS := List Int × Bool
/-- one question: how deep is what i calls -/
def wkG (L : List (List Int)) : Nat → Nat → DS → DS × Int
  | 0, _, s => (s, 0)
  | f + 1, i, s => if (s.2 || s.1.getD i 0 == -1) = true then ((s.1, true), 0) else if 0 < s.1.getD i 0 then (s, s.1.getD i 0) else
    (((((L.getD i []).foldl (fun (t : DS × Int) (j : Int) => ((wkG L f j.toNat t.1).1, max t.2 (wkG L f j.toNat t.1).2)) ((s.1.set i (-1), false), 0)).1.1.set i
      (((L.getD i []).foldl (fun (t : DS × Int) (j : Int) => ((wkG L f j.toNat t.1).1, max t.2 (wkG L f j.toNat t.1).2)) ((s.1.set i (-1), false), 0)).2 + 1)),
      ((L.getD i []).foldl (fun (t : DS × Int) (j : Int) => ((wkG L f j.toNat t.1).1, max t.2 (wkG L f j.toNat t.1).2)) ((s.1.set i (-1), false), 0)).1.2),
      ((L.getD i []).foldl (fun (t : DS × Int) (j : Int) => ((wkG L f j.toNat t.1).1, max t.2 (wkG L f j.toNat t.1).2)) ((s.1.set i (-1), false), 0)).2 + 1)
def wkL (L : List (List Int)) (f : Nat) (js : List Int) (t : DS × Int) : DS × Int := js.foldl (fun (t : DS × Int) (j : Int) => ((wkG L f j.toNat t.1).1, max t.2 (wkG L f j.toNat t.1).2)) t
theorem wkL_cons (L : List (List Int)) (f : Nat) (j : Int) (js : List Int) (t : DS × Int) : wkL L f (j :: js) t = wkL L f js ((wkG L f j.toNat t.1).1, max t.2 (wkG L f j.toNat t.1).2) := rfl
theorem wkL_nil (L : List (List Int)) (f : Nat) (t : DS × Int) : wkL L f [] t = t := rfl
theorem wkG_succ (L : List (List Int)) (f i : Nat) (s : DS) : wkG L (f + 1) i s = if (s.2 || s.1.getD i 0 == -1) = true then ((s.1, true), 0) else if 0 < s.1.getD i 0 then (s, s.1.getD i 0) else
    (((wkL L f (L.getD i []) ((s.1.set i (-1), false), 0)).1.1.set i ((wkL L f (L.getD i []) ((s.1.set i (-1), false), 0)).2 + 1), (wkL L f (L.getD i []) ((s.1.set i (-1), false), 0)).1.2), (wkL L f (L.getD i []) ((s.1.set i (-1), false), 0)).2 + 1) := rfl
/-- how many are not asked yet, how many are told -/
def zeros (D : List Int) : Nat := D.countP fun d => decide (d = 0)
def told (D : List Int) : Nat := D.countP fun d => decide (0 < d)
/-- no entry is beyond the number of those that are told -/
structure Bd (L : List (List Int)) (D : List Int) : Prop where
  len : D.length = L.length
  hi : ∀ d ∈ D, d ≤ (told D : Int)
  lo : ∀ d ∈ D, -1 ≤ d
theorem countP_set (p : Int → Bool) : ∀ (D : List Int) (i : Nat) (h : i < D.length) (v : Int), (D.set i v).countP p + (if p (D.getD i 0) = true then 1 else 0) = D.countP p + (if p v = true then 1 else 0)
  | d :: D, 0, _, v => by
    simp only [List.set_cons_zero, List.countP_cons, List.getD_cons_zero]
    omega
  | d :: D, i + 1, h, v => by
    have := countP_set p D i (by simpa using h) v
    simp only [List.set_cons_succ, List.countP_cons, List.getD_cons_succ]
    omega
theorem getD_set (D : List Int) (i k : Nat) (h : i < D.length) (v : Int) : (D.set i v).getD k 0 = if k = i then v else D.getD k 0 := by
  rw [List.getD_eq_getElem?_getD, List.getD_eq_getElem?_getD]
  by_cases e : k = i
  · subst e
    rw [if_pos rfl, List.getElem?_set_self h]
    rfl
  · rw [if_neg e, List.getElem?_set_ne (fun h => e h.symm)]
theorem told_le (D : List Int) : told D ≤ D.length := List.countP_le_length
theorem mem_getD {D : List Int} {i : Nat} (h : i < D.length) : D.getD i 0 ∈ D := by
  rw [List.getD_eq_getElem?_getD, List.getElem?_eq_getElem h]
  exact List.getElem_mem h
theorem getD_of_mem {D : List Int} {d : Int} (h : d ∈ D) : ∃ i, i < D.length ∧ D.getD i 0 = d := by
  obtain ⟨i, hi, rfl⟩ := List.getElem_of_mem h
  exact ⟨i, hi, by rw [List.getD_eq_getElem?_getD, List.getElem?_eq_getElem hi]; rfl⟩
theorem Bd.get {L : List (List Int)} {D : List Int} (h : Bd L D) (i : Nat) : -1 ≤ D.getD i 0 ∧ D.getD i 0 ≤ (told D : Int) := by
  by_cases hi : i < D.length
  · exact ⟨h.lo _ (mem_getD hi), h.hi _ (mem_getD hi)⟩
  · rw [List.getD_eq_getElem?_getD, List.getElem?_eq_none (by omega)]
    exact ⟨by decide, Int.natCast_nonneg _⟩
theorem Bd.mk' {L : List (List Int)} {D : List Int} (hl : D.length = L.length) (h : ∀ i, i < D.length → -1 ≤ D.getD i 0 ∧ D.getD i 0 ≤ (told D : Int)) : Bd L D :=
  ⟨hl, fun d hd => by obtain ⟨i, hi, rfl⟩ := getD_of_mem hd; exact (h i hi).2, fun d hd => by obtain ⟨i, hi, rfl⟩ := getD_of_mem hd; exact (h i hi).1⟩
/-- all names are names -/
def InL (L : List (List Int)) : Prop := ∀ js ∈ L, ∀ j ∈ js, 0 ≤ j ∧ j < (L.length : Int)
theorem InL.at_ {L : List (List Int)} (h : InL L) {i : Nat} : ∀ j ∈ L.getD i [], 0 ≤ j ∧ j < (L.length : Int) := fun j hj => by
  rw [List.getD_eq_getElem?_getD] at hj
  cases hx : L[i]? with
  | none => rw [hx] at hj; simp at hj
  | some js => rw [hx] at hj; exact h js (List.mem_of_getElem? hx) j hj
/-- what one question leaves -/
structure Step (L : List (List Int)) (D D' : List Int) : Prop where
  bd : Bd L D'
  zr : zeros D' ≤ zeros D
  told : told D ≤ told D'
  onway : ∀ k, D.getD k 0 = -1 → D'.getD k 0 = -1
theorem Step.refl {L : List (List Int)} {D : List Int} (h : Bd L D) : Step L D D := ⟨h, Nat.le_refl _, Nat.le_refl _, fun _ h => h⟩
theorem Step.trans {L : List (List Int)} {A B C : List Int} (h : Step L A B) (k : Step L B C) : Step L A C := ⟨k.bd, Nat.le_trans k.zr h.zr, Nat.le_trans h.told k.told, fun i hi => k.onway i (h.onway i hi)⟩
theorem wk_step {L : List (List Int)} (hL : InL L) : ∀ (f i : Nat) (s : DS), i < L.length → Bd L s.1 → Step L s.1 (wkG L f i s).1.1 ∧ 0 ≤ (wkG L f i s).2 ∧ (wkG L f i s).2 ≤ (told (wkG L f i s).1.1 : Int)
  | 0, i, s, hi, h => ⟨Step.refl h, Int.le_refl _, Int.natCast_nonneg _⟩
  | f + 1, i, s, hi, h => by
    rw [wkG_succ]
    have hil : i < s.1.length := by rw [h.len]; exact hi
    split
    · exact ⟨Step.refl h, Int.le_refl _, Int.natCast_nonneg _⟩
    · rename_i hn
      have hne : s.1.getD i 0 ≠ -1 := fun e => hn (by rw [e]; simp)
      split
      · rename_i hp
        exact ⟨Step.refl h, by omega, (h.get i).2⟩
      · rename_i hp
        have h0 : s.1.getD i 0 = 0 := by have := (h.get i).1; omega
        have hb1 : Bd L (s.1.set i (-1)) := by
          have ht := countP_set (fun d => decide (0 < d)) s.1 i hil (-1)
          rw [h0] at ht
          have ht : told (s.1.set i (-1)) = told s.1 := by unfold told; simpa using ht
          refine Bd.mk' (by rw [List.length_set]; exact h.len) (fun k _ => ?_)
          rw [getD_set _ _ _ hil, ht]
          split
          · exact ⟨Int.le_refl _, by omega⟩
          · exact h.get k
        have ht1 : told (s.1.set i (-1)) = told s.1 := by
          have ht := countP_set (fun d => decide (0 < d)) s.1 i hil (-1)
          rw [h0] at ht
          unfold told; simpa using ht
        have hz1 : zeros (s.1.set i (-1)) + 1 = zeros s.1 := by
          have ht := countP_set (fun d => decide (d = 0)) s.1 i hil (-1)
          rw [h0] at ht
          unfold zeros; simpa using ht
        have hf : ∀ (js : List Int) (t : DS × Int), (∀ j ∈ js, 0 ≤ j ∧ j < (L.length : Int)) → Bd L t.1.1 → 0 ≤ t.2 → t.2 ≤ (told t.1.1 : Int) → Step L t.1.1 (wkL L f js t).1.1 ∧ 0 ≤ (wkL L f js t).2 ∧ (wkL L f js t).2 ≤ (told (wkL L f js t).1.1 : Int) := by
          intro js
          induction js with
          | nil => exact fun t _ hb h0 h1 => ⟨Step.refl hb, h0, h1⟩
          | cons j js ih =>
            intro t hj hb h0 h1
            rw [wkL_cons]
            obtain ⟨a, b, c⟩ := wk_step hL f j.toNat t.1 (by have := hj j (by simp); omega) hb
            have hto := a.told
            obtain ⟨a', b', c'⟩ := ih ((wkG L f j.toNat t.1).1, max t.2 (wkG L f j.toNat t.1).2) (fun x hx => hj x (by simp [hx])) a.bd (by show 0 ≤ max _ _; omega) (by show max t.2 (wkG L f j.toNat t.1).2 ≤ (told (wkG L f j.toNat t.1).1.1 : Int); omega)
            exact ⟨a.trans a', b', c'⟩
        obtain ⟨a, b, c⟩ := hf (L.getD i []) ((s.1.set i (-1), false), 0) hL.at_ hb1 (Int.le_refl _) (Int.natCast_nonneg _)
        generalize wkL L f (L.getD i []) ((s.1.set i (-1), false), 0) = r at *
        have hon := a.onway i (by rw [getD_set _ _ _ hil, if_pos rfl])
        have hlr : i < r.1.1.length := by rw [a.bd.len]; exact hi
        have ht2 : told (r.1.1.set i (r.2 + 1)) = told r.1.1 + 1 := by
          have ht := countP_set (fun d => decide (0 < d)) r.1.1 i hlr (r.2 + 1)
          rw [hon] at ht
          unfold told
          simp only [show decide ((0 : Int) < -1) = false by decide, show decide (0 < r.2 + 1) = true from decide_eq_true (by omega), if_true, if_neg Bool.false_ne_true] at ht
          omega
        have hz2 : zeros (r.1.1.set i (r.2 + 1)) = zeros r.1.1 := by
          have ht := countP_set (fun d => decide (d = 0)) r.1.1 i hlr (r.2 + 1)
          rw [hon] at ht
          unfold zeros
          simp only [show decide ((-1 : Int) = 0) = false by decide, show decide (r.2 + 1 = 0) = false from decide_eq_false (by omega), if_neg Bool.false_ne_true] at ht
          omega
        have hto : told (s.1.set i (-1)) ≤ told r.1.1 := a.told
        have hzr : zeros r.1.1 ≤ zeros (s.1.set i (-1)) := a.zr
        refine ⟨⟨?_, ?_, ?_, ?_⟩, ?_, ?_⟩
        · refine Bd.mk' (by rw [List.length_set]; exact a.bd.len) (fun k _ => ?_)
          show -1 ≤ (r.1.1.set i (r.2 + 1)).getD k 0 ∧ (r.1.1.set i (r.2 + 1)).getD k 0 ≤ (told (r.1.1.set i (r.2 + 1)) : Int)
          rw [getD_set _ _ _ hlr, ht2]
          split
          · exact ⟨by omega, by omega⟩
          · have := a.bd.get k
            omega
        · show zeros (r.1.1.set i (r.2 + 1)) ≤ _
          omega
        · show _ ≤ told (r.1.1.set i (r.2 + 1))
          omega
        · intro k hk
          show (r.1.1.set i (r.2 + 1)).getD k 0 = -1
          rw [getD_set _ _ _ hlr]
          have hki : k ≠ i := fun e => by subst e; exact hne hk
          rw [if_neg hki]
          exact a.onway k (by rw [getD_set _ _ _ hil, if_neg hki]; exact hk)
        · show 0 ≤ r.2 + 1
          omega
        · show r.2 + 1 ≤ (told (r.1.1.set i (r.2 + 1)) : Int)
          omega

end Go.Proofs.YtlkgmcacbfoijaaGreat

