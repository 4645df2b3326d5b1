/-
  Proved here: 'Rows.MapsKeysSaid' - the law MapsKeys returns true for every row of keys: a hash tells its keys rising byte by byte, each once, and each one's region by its number. Without conditions.
  The frame was turned from the one that the kit's skeleton program wrote for the row mapskeys (a starting text); the walk is own work.
-/
import Derived.Test.YtahabogjfcdjkaaRows
import Derived.WalkKit
import Derived.ProofKit
import Derived.OpenShut
import Derived.ShutString
import Derived.ChangeOld
import Derived.Below
import Derived.Deep.Slices
import Derived.ChangeSame
import Derived.ChangeSlices
import Derived.Test.YtahabogjfcdjkaaLk
namespace Go.Proofs.Ytahabogjfcdjkaa.mapsKeys
open Go.ChangeShapes Go.WideShapes Go.ChangeAt Go.RowKit
open Go.ChangeMaps (open_string shut_string)
set_option linter.unusedVariables false

theorem own : ownKnob Try.prog.godebug = none := by kernel_rfl
theorem laidOut : laidOutB Try.prog = true := by kernel_rfl

theorem inB_of {w : World} {x : Addr} {len : Nat} {zs : List Int} (hl : len ≤ zs.length) (hc : ∀ i, i < zs.length → w.cell? (x.add i) = some (.int .u8 (zs.getD i 0))) (hwf : ∀ n ∈ zs, (Lit.int .u8 n).wf = true) : ∃ l : List UInt8, l.length = len ∧ InB w (some x) l := by
  refine ⟨(zs.take len).map fun n => UInt8.ofNat n.toNat, by simp; omega, fun i b hb => ?_⟩
  simp only [List.getElem?_map] at hb
  have hi : i < len := by
    rcases Nat.lt_or_ge i len with h | h
    · exact h
    · rw [List.getElem?_take_eq_none h] at hb; cases hb
  rw [List.getElem?_take_of_lt hi, List.getElem?_eq_getElem (by omega)] at hb
  simp only [Option.map_some, Option.some.injEq] at hb
  have h1 := hc i (by omega)
  have hw := Go.bounds_u8 (hwf zs[i] (List.getElem_mem _))
  have hg : zs.getD i 0 = zs[i] := by rw [List.getD_eq_getElem?_getD, List.getElem?_eq_getElem (by omega)]; rfl
  have hbv : (b.toNat : Int) = zs[i] := by rw [← hb, UInt8.toNat_ofNat']; omega
  obtain ⟨g, off, sp⟩ := x
  obtain rfl : sp = none := by
    have h0 := hc 0 (by omega)
    have e0 : (⟨g, off, sp⟩ : Addr).add 0 = ⟨g, off, sp⟩ := rfl
    rw [e0] at h0
    exact spot_none h0
  have hadd : (⟨g, off, none⟩ : Addr).add i = ⟨g, off + i, none⟩ := by unfold Addr.add; split <;> simp_all
  rw [hadd, hg, ← hbv] at h1
  exact ⟨g, off, rfl, World.block_lt_of_cell? w _ h1, h1⟩

/-- a row of rows of bytes that can be read -/
theorem opened {H : Type} {enc : TypeId × Value → H} {W : World} {base : Nat} {spare : Nat → Bool} {held : Bool} {a0 : Option Addr} {len0 cap0 : Nat} {x : DataW H × List MemPlace} {fuel : Nat}
    (hf : DataW.trod enc Try.prog W base spare held fuel 42 [.slice a0 len0 cap0] = some x) : ∃ ll : List (List UInt8), ll.length = len0 ∧ InBB W a0 ll := by
  rcases Go.Deep.open_slice1 Try.underlying42 (by kernel_rfl) hf with ⟨hcs, _⟩ | ⟨x, l, c, m, n, V, D, Pl, hcs, _, hl, hm, hmm, _, hcell⟩
  · simp at hcs
    obtain ⟨rfl, rfl, rfl⟩ := hcs
    exact ⟨[], rfl, fun i l h => by simp at h⟩
  · simp at hcs
    obtain ⟨rfl, rfl, rfl⟩ := hcs
    have hm2 : len0 ≤ m := by rw [hmm]; split <;> omega
    have one : ∀ i, ∃ l : List UInt8, i < len0 → ∃ ea ec, V i = .slice ea l.length ec ∧ l.length ≤ ec ∧ InB W ea l := by
      intro i
      by_cases hi : i < len0
      · rcases open_ints Try.underlying33 Try.underlying5 (by kernel_rfl) (hcell i (by omega)).2 with ⟨hcs, _⟩ | ⟨y, l, c, zs, hcs, _, hl, hm, hz, _, hc, hwz⟩
        · simp at hcs
          exact ⟨[], fun _ => ⟨none, 0, hcs, Nat.le_refl _, fun i b hb => by simp at hb⟩⟩
        · simp at hcs
          have hzl : l ≤ zs.length := by rw [hz]; split <;> omega
          obtain ⟨l', hl', hB⟩ := inB_of hzl hc hwz
          exact ⟨l', fun _ => ⟨_, c, by rw [hl']; exact hcs, by omega, hB⟩⟩
      · exact ⟨[], fun h => absurd h hi⟩
    obtain ⟨f, hff⟩ := Classical.axiomOfChoice one
    refine ⟨(List.range len0).map f, by simp, fun i l hl => ?_⟩
    have hi : i < len0 := by
      have := (List.getElem?_eq_some_iff.1 hl).1
      simpa using this
    have hfl : f i = l := by simpa [hi] using hl
    subst hfl
    obtain ⟨ea, ec, hV, hle, hB⟩ := hff i hi
    have h1 := (hcell i (by omega)).1
    obtain ⟨g, off, sp⟩ := x
    obtain rfl : sp = none := by
      have h0 := (hcell 0 (by omega)).1
      have e0 : (⟨g, off, sp⟩ : Addr).add 0 = ⟨g, off, sp⟩ := rfl
      rw [e0] at h0
      exact spot_none h0
    have hadd : (⟨g, off, none⟩ : Addr).add i = ⟨g, off + i, none⟩ := by unfold Addr.add; split <;> simp_all
    rw [hadd, hV] at h1
    exact ⟨g, off, ea, ec, rfl, World.block_lt_of_cell? W _ h1, h1, hle, hB⟩

theorem walk (a0 : Option Addr) (cap0 : Nat) (ll : List (List UInt8)) (w : World) (h : InBB w a0 ll) :
    Calls Try.prog 5 #[.slice a0 ll.length cap0] w fun e w' => e = .returned (.bool true) ∧ Below w.heap.size w w' :=
  (walk_keys a0 cap0 ll w h).mono fun e w' h => ⟨h.1, h.2.below (Nat.le_refl _) (fun _ _ h => h)⟩

/-! ### THE ROW's STEP: WRITTEN OUT: LEAVE IT -/
set_option maxRecDepth 100000 in
theorem lifted (os : Os) (started : os.Started) (H : Type) (enc : TypeId × Value → H) :
    ReturnsInHanded {} Try.checked os 5 .any (Rows.mapsKeysSpec.pre6 enc Try.prog Try.f5 Rows.mapsKeysRow.domain false) (Rows.mapsKeysSpec.post enc Try.prog Try.f5 false true false false) := by
  refine returnsInHanded_of_change (C := Try.checked) own started (by kernel_rfl) Try.func5
    (ChangeSpec.witness6 (enc := enc) (C := Try.checked) false ⟨#[], #[.slice none 0 0], []⟩ 8 (by kernel_rfl) (by kernel_rfl) (by kernel_rfl) (by kernel_rfl)) ?_
  intro W base args ds gs before hval0 hW hcnd _
  have hval : ∀ (j : Nat) t v, Try.f5.params[j]? = some t → args[j]? = some v → Value.okWide Try.prog W .any base t v := hval0
  have hW' := hW
  obtain ⟨p, q, hA0, hV, rfl, hfz, hnd⟩ := hW
  have hA : DataW.TrodAll enc Try.prog W 0 (fun _ => true) true Try.f5.params.toList args.toList ds p := hA0
  rw [Try.params5] at hA hval
  obtain ⟨v0, vs0, d0, ds0, p0, q0, hargs, rfl, rfl, h0, r0⟩ := trodAll_cons hA
  obtain ⟨rfl, rfl, rfl⟩ := trodAll_nil r0
  obtain rfl : args = #[v0] := by cases args; simp_all
  obtain ⟨rfl, rfl⟩ := trodVars_none hV
  obtain ⟨a0, len0, cap0, rfl⟩ := okWide_slice Try.underlying42 (hval 0 42 v0 rfl rfl)
  have k0 := h0
  have lt0 : ∀ x ∈ p0, x.block < W.heap.size := by obtain ⟨m, hm⟩ := k0; exact DataW.trod_lt m _ _ _ hm
  obtain ⟨ll, rfl, w0⟩ : ∃ ll : List (List UInt8), ll.length = len0 ∧ InBB W a0 ll := by
    obtain ⟨fuel, hf⟩ := h0
    exact opened (by simpa [Value.cells] using hf)
  clear hA0 hval0
  refine (walk a0 cap0 ll W w0).mono fun e W' ⟨he, bel⟩ => ?_
  subst he
  exact ⟨_, rfl, _, _, _, [], _, [], hW', trodAll_mk1 (shut_bool Try.underlying4 _), (trodAll_cons_mk (Below.trod laidOut (by kernel_rfl) (of_decide_eq_true (by kernel_rfl)) k0 bel lt0) trodAll_mk0), rfl, bel.frame _, fun h => by cases h⟩

theorem over : Rows.mapsKeysRow.holds Try.pinned (OpenSpec.ofChange Rows.mapsKeysSpec) :=
  OpenClaim.holds_of_wide 5 Try.f5 rfl rfl rfl rfl rfl rfl rfl ⟨rfl, rfl, rfl, rfl, rfl⟩ rfl rfl rfl rfl rfl (by kernel_rfl) Try.func5 (by kernel_rfl)
    (of_decide_eq_true (by kernel_rfl)) (by unfold Func.isWrapper; first | (rw [if_pos (by decide +kernel)]; kernel_rfl) | (rw [if_neg (by decide +kernel)]; exact ⟨rfl, rfl⟩))
    (fun os started H enc _ => lifted os started H enc)

/-- ████ THE STATEMENT ████ -/
theorem proved : Rows.MapsKeysSaid := over
#print axioms proved
end Go.Proofs.Ytahabogjfcdjkaa.mapsKeys
