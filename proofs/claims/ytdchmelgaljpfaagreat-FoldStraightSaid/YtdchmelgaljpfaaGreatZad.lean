import Derived.Test.YtdchmelgaljpfaaGreatZab
import Derived.Test.YtdchmelgaljpfaaGreatZac
import Derived.Great.BuildSlice
import Derived.Test.YtdchmelgaljpfaaGreatKe
import Derived.Test.YtdchmelgaljpfaaGreatKe2
import Derived.Test.YtdchmelgaljpfaaGreatMh
import Derived.Test.YtdchmelgaljpfaaGreatMix
import Derived.Test.YtdchmelgaljpfaaGreatJd
import Derived.WalkKit
import Derived.ProofKit
import Derived.OpenShut
import Derived.ShutString
import Derived.ChangeOld
import Derived.Below
import Derived.Deep.Slices
import Derived.Deep.Fields
import Derived.ChangeSame
import Derived.ChangeSlices
set_option linter.unusedSimpArgs false
set_option linter.unusedVariables false
namespace Go.Proofs.YtdchmelgaljpfaaGreat
open Go.RowKit

end Go.Proofs.YtdchmelgaljpfaaGreat

set_option linter.unusedSimpArgs false
set_option linter.unusedVariables false
namespace Go.Proofs.YtdchmelgaljpfaaGreat
open Go.RowKit

/-! ### slots that are come to have a row (plain) -/
theorem named_begin {l : List In} (hz : checkI l = 0) {i : Nat} {x : In} {t : Int} (hx : l[i]? = some x) (hr : Rch l i) (ht : namC i x = some t) : t ∈ beginsL l := by
  obtain ⟨hi, hs⟩ := rch_ok hz hr
  have htg : tgtC l i = some t := by
    unfold tgtC
    rw [hx, hs]
    unfold namC at ht
    split at ht
    · rename_i hc
      simpa [hc] using ht
    · cases ht
  exact ((begins_ok (check_parts hz).1).2.1 t).2 (.inr ⟨i, hi, htg⟩)
theorem part_begin {l : List In} {t : Nat} (ht : (t : Int) ∈ beginsL l) : ∃ p ∈ partsL l, p.1 = (t : Int) := by
  obtain ⟨i, hi, e⟩ := List.mem_iff_getElem.1 ht
  refine ⟨partAt (beginsL l) l.length i, ?_, ?_⟩
  · unfold partsL partsOf
    exact List.mem_map.2 ⟨i, List.mem_range.2 hi, rfl⟩
  · unfold partAt
    show (beginsL l).getD i 0 = _
    rw [List.getD_eq_getElem?_getD, List.getElem?_eq_getElem hi, e]
    rfl
theorem KIs.reached {l : List In} {V : List (Option KR)} (h : KIs l V) (hz : checkI l = 0) {i : Nat} (hr : Rch l i) : ∃ r, V[i]? = some (some r) := by
  induction hr with
  | zero =>
    refine ⟨_, h.sol.st 0 ⟨part_begin (t := 0) ?_, Rch.zero⟩⟩
    exact ((begins_ok (check_parts hz).1).2.1 0).2 (.inl rfl)
  | step hi hj ih =>
    rename_i i j
    obtain ⟨r, hr⟩ := ih
    obtain ⟨hil, his⟩ := rch_ok hz hi
    obtain ⟨x, hx⟩ : ∃ x, l[i]? = some x := ⟨_, List.getElem?_eq_getElem hil⟩
    have hj2 := hj
    rw [succ_at hx] at hj2
    rcases List.mem_append.1 hj2 with hn | hn
    · have hm : j ∈ (flwL l).next i := by
        rw [flw_next hx]
        exact List.mem_map.2 ⟨(j : Int), hn, by simp⟩
      obtain ⟨v, hv, hle⟩ := h.sol.step i r hr j hm
      cases v with
      | none => exact hle.elim
      | some r' => exact ⟨r', hv⟩
    · have hc : namC i x = some (j : Int) := by
        cases e : namC i x with
        | none => rw [e] at hn; cases hn
        | some t => rw [e] at hn; simp at hn; rw [hn]
      exact ⟨_, h.sol.st j ⟨part_begin (named_begin hz hx hi hc), hi.step hj⟩⟩
end Go.Proofs.YtdchmelgaljpfaaGreat

set_option linter.unusedSimpArgs false
set_option linter.unusedVariables false
namespace Go.Proofs.YtdchmelgaljpfaaGreat
open Go.RowKit

/-! ### opt: jumps, names, idle -/
end Go.Proofs.YtdchmelgaljpfaaGreat

set_option linter.unusedSimpArgs false
set_option linter.unusedVariables false
namespace Go.Proofs.YtdchmelgaljpfaaGreat
open Go.ChangeShapes Go.WideShapes Go.ChangeAt Go.RowKit

/-! ### slots that came in -/
theorem spot_none {w : World} {a : Addr} {v : Value} (h : w.cell? a = some v) : a.spot = none := by
  unfold World.cell? at h
  split at h
  · split at h
    · cases h
    · rename_i hs; simpa using hs
  · cases h

section
open Go.Deep
variable {H : Type} {enc : TypeId × Value → H} {P : Program} {w : World} {base : Nat} {spare : Nat → Bool} {held : Bool}
theorem open_slice_fields {t e : TypeId} {fs : Array Field} {fuel : Nat} {cs : List Value} {x : DataW H × List MemPlace} (ht : P.underlying t = some (.slice e)) (he : P.underlying e = some (.struct fs))
    (hone : oneCellFields P fs = true) (hC : P.cellsOf e = fs.size) (h : DataW.trod enc P w base spare held fuel t cs = some x) :
    (cs = [.slice none 0 0] ∧ x = (.nil, [])) ∨
    ∃ (a : Addr) (len cap m : Nat) (D : Nat → DataW H) (Pl : Nat → List MemPlace), cs = [.slice (some a) len cap] ∧ base ≤ a.block ∧ len ≤ cap ∧ cap ≤ maxLen ∧ m = (if spare a.block then cap else len) ∧
      x = (.slice ((List.range len).map D) ((List.range (m - len)).map fun j => D (len + j)), MemPlace.row a (m * fs.size) ++ (List.range m).flatMap Pl) ∧
      ∀ i, i < m → ∃ (ys : List (DataW H × List MemPlace)) (n : Nat), D i = .agg (ys.map (·.1)) ∧ Pl i = ys.flatMap (·.2) ∧ ys.length = fs.size ∧
        ∀ (j : Nat) (f : Field), fs[j]? = some f → ∃ (v : Value) (y : DataW H × List MemPlace), w.cell? (a.add (i * fs.size + j)) = some v ∧ ys[j]? = some y ∧ DataW.trod enc P w base spare held n f.type [v] = some y := by
  rcases open_slice ht h with h0 | ⟨a, len, cap, m, n, D, Pl, hcs, hb, hl, hm, hmm, hx, hi⟩
  · exact .inl h0
  · refine .inr ⟨a, len, cap, m, D, Pl, hcs, hb, hl, hm, hmm, by rw [hC] at hx; exact hx, fun i him => ?_⟩
    obtain ⟨cs', hc, ht'⟩ := hi i him
    rw [hC] at hc
    obtain ⟨ys, n', hn', hy, hlen, hyl, hf⟩ := DataW.trod_struct he ht'
    obtain ⟨_, hcl, hat⟩ := World.cells?_some hc
    simp only [Prod.mk.injEq] at hy
    refine ⟨ys, n', hy.1, hy.2, hyl, fun j f hj => ?_⟩
    obtain ⟨ho, hk⟩ := hone_of hone j f hj
    have hjl : j < fs.size := (Array.getElem?_eq_some_iff.1 hj).1
    have hcell := hat j hjl
    have hv : cs'[j]? = some (cs'[j]'(by omega)) := List.getElem?_eq_getElem (by omega)
    have h1 := hf j f hj
    rw [ho, hk] at h1
    have hone' : (cs'.drop j).take 1 = [cs'[j]'(by omega)] := by
      rw [List.drop_eq_getElem_cons (by omega)]
      rfl
    rw [hone'] at h1
    have hys : ys[j]? = some (ys[j]'(by omega)) := List.getElem?_eq_getElem (by omega)
    refine ⟨_, _, ?_, hys, h1.trans hys⟩
    rw [← Go.Deep.add_add, hcell, hv]
end
/-- slots that can be read -/
theorem ins_opened {H : Type} {enc : TypeId × Value → H} {W : World} {base : Nat} {spare : Nat → Bool} {held : Bool} {a0 : Option Addr} {len0 cap0 : Nat} {x : DataW H × List MemPlace} {fuel : Nat}
    (hf : DataW.trod enc Tryz.prog W base spare held fuel 22 [.slice a0 len0 cap0] = some x) : ∃ l : List In, l.length = len0 ∧ len0 ≤ maxLen ∧ Ins W (.slice a0 l.length cap0) l ∧ ∀ x ∈ l, InOk x := by
  rcases open_slice_fields Tryz.underlying22 Tryz.underlying75 (by kernel_rfl) (by kernel_rfl) hf with ⟨hcs, _⟩ | ⟨x, l, c, m, D, Pl, hcs, _, hl, hm, hmm, _, hcell⟩
  · simp at hcs
    obtain ⟨rfl, rfl, rfl⟩ := hcs
    exact ⟨[], rfl, Nat.zero_le _, ⟨none, 0, rfl, Nat.le_refl _, fun i x hx => by simp at hx⟩, fun x hx => by cases hx⟩
  · simp at hcs
    obtain ⟨rfl, rfl, rfl⟩ := hcs
    have hm2 : len0 ≤ m := by rw [hmm]; split <;> omega
    have one : ∀ i, ∃ s : In, i < len0 → W.cell? (x.add (i * 5 + 0)) = some (.int .u8 s.op) ∧ W.cell? (x.add (i * 5 + 1)) = some (.int .u8 s.dst) ∧ W.cell? (x.add (i * 5 + 2)) = some (.int .u8 s.src) ∧ W.cell? (x.add (i * 5 + 3)) = some (.int .i16 s.off) ∧ W.cell? (x.add (i * 5 + 4)) = some (.int .i32 s.imm) ∧ InOk s := by
      intro i
      by_cases hi : i < len0
      · obtain ⟨ys, n, _, _, _, hff⟩ := hcell i (by omega)
        obtain ⟨v0, y0, c0, _, t0⟩ := hff 0 _ rfl
        obtain ⟨v1, y1, c1, _, t1⟩ := hff 1 _ rfl
        obtain ⟨v2, y2, c2, _, t2⟩ := hff 2 _ rfl
        obtain ⟨v3, y3, c3, _, t3⟩ := hff 3 _ rfl
        obtain ⟨v4, y4, c4, _, t4⟩ := hff 4 _ rfl
        obtain ⟨n0, e0, _, w0⟩ := DataW.trod_int Tryz.underlying5 t0
        obtain ⟨n1, e1, _, w1⟩ := DataW.trod_int Tryz.underlying5 t1
        obtain ⟨n2, e2, _, w2⟩ := DataW.trod_int Tryz.underlying5 t2
        obtain ⟨n3, e3, _, w3⟩ := DataW.trod_int Tryz.underlying73 t3
        obtain ⟨n4, e4, _, w4⟩ := DataW.trod_int Tryz.underlying21 t4
        simp only [List.cons.injEq, and_true] at e0 e1 e2 e3 e4
        subst e0 e1 e2 e3 e4
        have b0 := Go.bounds_u8 w0
        have b1 := Go.bounds_u8 w1
        have b2 := Go.bounds_u8 w2
        have b3 := Go.bounds_i16 w3
        have b4 := Go.bounds_i32 w4
        exact ⟨⟨n0, n1, n2, n3, n4⟩, fun _ => ⟨c0, c1, c2, c3, c4, ⟨by simp only; omega, by simp only; omega, by simp only; omega, by simp only; omega, by simp only; omega⟩⟩⟩
      · exact ⟨⟨0, 0, 0, 0, 0⟩, fun h => absurd h hi⟩
    obtain ⟨f, hff⟩ := Classical.axiomOfChoice one
    have hmem : ∀ i s, ((List.range len0).map f)[i]? = some s → i < len0 ∧ f i = s := fun i s hs => by
      have hi : i < len0 := by
        have := (List.getElem?_eq_some_iff.1 hs).1
        simpa using this
      exact ⟨hi, by simpa [hi] using hs⟩
    refine ⟨(List.range len0).map f, by simp, by omega, ?_, fun s hs => ?_⟩
    · refine ⟨some x, cap0, by simp, by simpa using hl, fun i s hs => ?_⟩
      obtain ⟨hi, rfl⟩ := hmem i s hs
      obtain ⟨c0, c1, c2, c3, c4, _⟩ := hff i hi
      obtain ⟨g, off, sp⟩ := x
      obtain rfl : sp = none := by
        obtain ⟨z0, _⟩ := hff 0 (by omega)
        have e0 : (⟨g, off, sp⟩ : Addr).add (0 * 5 + 0) = ⟨g, off, sp⟩ := rfl
        rw [e0] at z0
        exact spot_none z0
      have hadd : ∀ j, (⟨g, off, none⟩ : Addr).add (i * 5 + j) = ⟨g, off + i * 5 + j, none⟩ := fun j => by unfold Addr.add; split <;> simp_all [Nat.add_assoc]
      rw [hadd] at c0 c1 c2 c3 c4
      refine ⟨g, off, rfl, World.block_lt_of_cell? W _ c0, fun k u hk => ?_⟩
      have hk5 : k < 5 := by
        have := (Array.getElem?_eq_some_iff.1 hk).1
        simpa using this
      rcases (by omega : k = 0 ∨ k = 1 ∨ k = 2 ∨ k = 3 ∨ k = 4) with rfl | rfl | rfl | rfl | rfl
      · cases hk; exact c0
      · cases hk; exact c1
      · cases hk; exact c2
      · cases hk; exact c3
      · cases hk; exact c4
    · obtain ⟨i, hi⟩ := List.mem_iff_getElem?.1 hs
      obtain ⟨h1, rfl⟩ := hmem i s hi
      exact (hff i h1).2.2.2.2.2

end Go.Proofs.YtdchmelgaljpfaaGreat

set_option linter.unusedSimpArgs false
set_option linter.unusedVariables false
namespace Go.Proofs.YtdchmelgaljpfaaGreat
open Go.RowKit

/-! ### FoldTells -/
end Go.Proofs.YtdchmelgaljpfaaGreat

set_option linter.unusedSimpArgs false
set_option linter.unusedVariables false
namespace Go.Proofs.YtdchmelgaljpfaaGreat
open Go.RowKit

/-! ### the program that 'known' asks of -/
def KF : List In := [⟨183, 1, 0, 0, 2⟩, ⟨7, 1, 0, 0, 3⟩, ⟨191, 0, 1, 0, 0⟩, ⟨149, 0, 0, 0, 0⟩]
theorem KF_ok : InsOk KF := ⟨by decide, fun x hx => by
  simp only [KF, List.mem_cons, List.not_mem_nil, or_false] at hx
  rcases hx with rfl | rfl | rfl | rfl <;> exact ⟨by decide, by decide, by decide, by decide, by decide⟩⟩
theorem KF_check : checkI KF = 0 := by decide +kernel
def UF : List (Option KR) := [some noneR, some (noneR.set 1 (some 2)), some (noneR.set 1 (some 5)), some ((noneR.set 1 (some 5)).set 0 (some 5))]
theorem KF_beh : (flwL KF).beh 0 noneR = noneR.set 1 (some 2) ∧ (flwL KF).beh 1 (noneR.set 1 (some 2)) = noneR.set 1 (some 5) ∧ (flwL KF).beh 2 (noneR.set 1 (some 5)) = (noneR.set 1 (some 5)).set 0 (some 5) := by decide +kernel
theorem KF_next : (flwL KF).next 0 = [1] ∧ (flwL KF).next 1 = [2] ∧ (flwL KF).next 2 = [3] ∧ (flwL KF).next 3 = [] := by decide +kernel
theorem KF_parts : partsL KF = [(0, 4)] := by decide +kernel
theorem KF_first : (flwL KF).first 0 := ⟨⟨(0, 4), by rw [KF_parts]; simp, rfl⟩, .zero⟩
theorem UF_sol : (flwL KF).Sol UF where
  len := rfl
  st i h := by
    obtain ⟨⟨p, hp, e⟩, _⟩ := h
    rw [KF_parts] at hp
    rw [List.mem_singleton.1 hp] at e
    obtain rfl : i = 0 := by
      have e : (0 : Int) = (i : Int) := e
      omega
    rfl
  step i r hi j hj := by
    have hl : i < 4 := (List.getElem?_eq_some_iff.1 hi).1
    obtain ⟨b0, b1, b2⟩ := KF_beh
    obtain ⟨n0, n1, n2, n3⟩ := KF_next
    rcases (by omega : i = 0 ∨ i = 1 ∨ i = 2 ∨ i = 3) with rfl | rfl | rfl | rfl
    · rw [n0] at hj; obtain rfl := List.mem_singleton.1 hj
      cases hi
      exact ⟨_, rfl, by rw [b0]; exact LeR.refl _⟩
    · rw [n1] at hj; obtain rfl := List.mem_singleton.1 hj
      cases hi
      exact ⟨_, rfl, by rw [b1]; exact LeR.refl _⟩
    · rw [n2] at hj; obtain rfl := List.mem_singleton.1 hj
      cases hi
      exact ⟨_, rfl, by rw [b2]; exact LeR.refl _⟩
    · rw [n3] at hj; cases hj
theorem KF_rows {V : List (Option KR)} (h : KIs KF V) : V = UF := by
  obtain ⟨b0, b1, b2⟩ := KF_beh
  obtain ⟨n0, n1, n2, n3⟩ := KF_next
  have hl : V.length = 4 := h.b.len
  have v0 : V[0]? = some (some noneR) := h.sol.st 0 KF_first
  have key : ∀ (i : Nat) (r u : KR), V[i]? = some (some r) → (i + 1) ∈ (flwL KF).next i → (flwL KF).beh i r = u → UF[i + 1]? = some (some u) → V[i + 1]? = some (some u) := fun i r u hi hn hb hu => by
    obtain ⟨v, hv, hle⟩ := h.sol.step i r hi (i + 1) hn
    have h2 := h.b.top.top UF UF_sol (i + 1) _ _ hu hv
    rw [hb] at hle
    rw [hv, LeO.antisymm hle h2]
  have v1 := key 0 _ _ v0 (by rw [n0]; simp) b0 rfl
  have v2 := key 1 _ _ v1 (by rw [n1]; simp) b1 rfl
  have v3 := key 2 _ _ v2 (by rw [n2]; simp) b2 rfl
  apply List.ext_getElem?
  intro i
  by_cases hi : i < 4
  · rcases (by omega : i = 0 ∨ i = 1 ∨ i = 2 ∨ i = 3) with rfl | rfl | rfl | rfl
    · exact v0
    · exact v1
    · exact v2
    · exact v3
  · rw [List.getElem?_eq_none (by omega), List.getElem?_eq_none (by show 4 ≤ i; omega)]
theorem KF_fold {V : List (Option KR)} (h : KIs KF V) : foldL KF V = [⟨183, 1, 0, 0, 2⟩, ⟨183, 1, 0, 0, 5⟩, ⟨183, 0, 0, 0, 5⟩, ⟨149, 0, 0, 0, 0⟩] := by
  rw [KF_rows h]
  decide +kernel

end Go.Proofs.YtdchmelgaljpfaaGreat

