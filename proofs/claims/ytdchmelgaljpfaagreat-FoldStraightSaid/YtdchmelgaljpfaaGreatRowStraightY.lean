/-
  Proved here: 'Rows.FoldStraightSaid' - the law FoldStraight returns true for all its arguments: of a row of operations on registers that all have a known number at first all results are known, as layer 2 makes them; what an immediate makes is told by one. Without conditions.
  The frame was turned from the one that the kit's skeleton program wrote (a starting text); the walk is own work.
-/
import Derived.Test.YtdchmelgaljpfaaGreatRows
import Derived.WalkKit
import Derived.ProofKit
import Derived.OpenShut
import Derived.ShutString
import Derived.ChangeOld
import Derived.Below
import Derived.ChangeSame
import Derived.ChangeSlices
import Derived.Test.YtdchmelgaljpfaaGreatFd
import Derived.Test.YtdchmelgaljpfaaGreatZah
import Derived.Test.YtdchmelgaljpfaaGreatFm
namespace Go.Proofs.YtdchmelgaljpfaaGreat.foldStraight
open Go.ChangeShapes Go.WideShapes Go.ChangeAt Go.RowKit
open Go.ChangeMaps (open_string shut_string)
set_option linter.unusedVariables false

theorem own : ownKnob Tryz.prog.godebug = none := by kernel_rfl
theorem laidOut : laidOutB Tryz.prog = true := by kernel_rfl
theorem walk (f0 f1 f2 f3 : Int) (a1 : Option Addr) (cap1 : Nat) (l1 : List In) (w : World) (o0 : ∀ v ∈ [f0, f1, f2, f3], -2147483648 ≤ v ∧ v ≤ 2147483647) (w1 : Ins w (.slice a1 l1.length cap1) l1) (o1 : ∀ x ∈ l1, InOk x) (hm1 : l1.length ≤ maxLen) :
    Calls Tryz.prog 5 #[.agg #[.int .i32 f0, .int .i32 f1, .int .i32 f2, .int .i32 f3], .slice a1 l1.length cap1] w fun e w' => e = .returned (.bool true) ∧ Below w.heap.size w w' :=
  (walk_fstraight f0 f1 f2 f3 l1 a1 cap1 w o0 w1 o1 known25_any).mono fun e w' h => ⟨h.1, h.2.below (Nat.le_refl _) (fun _ _ h => h)⟩

/-! ### THE ROW's STEP -/
set_option maxRecDepth 100000 in
theorem lifted (os : Os) (started : os.Started) (H : Type) (enc : TypeId × Value → H) :
    ReturnsInHanded {} Tryz.checked os 5 .any (Rows.foldStraightSpec.pre6 enc Tryz.prog Tryz.f5 Rows.foldStraightRow.domain false) (Rows.foldStraightSpec.post enc Tryz.prog Tryz.f5 false true false false) := by
  refine returnsInHanded_of_change (C := Tryz.checked) own started (by kernel_rfl) Tryz.func5
    (ChangeSpec.witness6 (enc := enc) (C := Tryz.checked) false ⟨#[], #[.agg #[.int .i32 0, .int .i32 0, .int .i32 0, .int .i32 0], .slice none 0 0], []⟩ 8 (by kernel_rfl) (by kernel_rfl) (by kernel_rfl) (by kernel_rfl)) ?_
  intro W base args ds gs before hval0 hW hcnd _
  have hval : ∀ (j : Nat) t v, Tryz.f5.params[j]? = some t → args[j]? = some v → Value.okWide Tryz.prog W .any base t v := hval0
  have hW' := hW
  obtain ⟨p, q, hA0, hV, rfl, hfz, hnd⟩ := hW
  have hA : DataW.TrodAll enc Tryz.prog W 0 (fun _ => true) true Tryz.f5.params.toList args.toList ds p := hA0
  rw [Tryz.params5] at hA hval
  obtain ⟨v0, vs0, d0, ds0, p0, q0, hargs, rfl, rfl, h0, r0⟩ := trodAll_cons hA
  obtain ⟨v1, vs1, d1, ds1, p1, q1, rfl, rfl, rfl, h1, r1⟩ := trodAll_cons r0
  obtain ⟨rfl, rfl, rfl⟩ := trodAll_nil r1
  obtain rfl : args = #[v0, v1] := by cases args; simp_all
  obtain ⟨rfl, rfl⟩ := trodVars_none hV
  obtain ⟨cs0, rfl, cz0⟩ := okWide_arr Tryz.underlying71 (hval 0 71 v0 rfl rfl)
  have k0 := h0
  have lt0 : ∀ x ∈ p0, x.block < W.heap.size := by obtain ⟨m, hm⟩ := k0; exact DataW.trod_lt m _ _ _ hm
  obtain ⟨x0a, x0b, x0c, x0d, rfl, o0⟩ : ∃ a b c d : Int, cs0 = #[.int .i32 a, .int .i32 b, .int .i32 c, .int .i32 d] ∧ ∀ v ∈ [a, b, c, d], -2147483648 ≤ v ∧ v ≤ 2147483647 := by
    obtain ⟨fuel, hf⟩ := h0
    exact arr4_opened (by rw [cz0]; kernel_rfl) (by simpa [Value.cells] using hf)
  obtain ⟨a1, len1, cap1, rfl⟩ := okWide_slice Tryz.underlying22 (hval 1 22 v1 rfl rfl)
  have k1 := h1
  have lt1 : ∀ x ∈ p1, x.block < W.heap.size := by obtain ⟨m, hm⟩ := k1; exact DataW.trod_lt m _ _ _ hm
  obtain ⟨l1, rfl, hm1, w1, o1⟩ : ∃ l : List In, l.length = len1 ∧ len1 ≤ maxLen ∧ Ins W (.slice a1 l.length cap1) l ∧ ∀ x ∈ l, InOk x := by
    obtain ⟨fuel, hf⟩ := h1
    exact ins_opened (by simpa [Value.cells] using hf)
  clear hA0 hval0
  refine (walk x0a x0b x0c x0d a1 cap1 l1 W o0 w1 o1 hm1).mono fun e W' ⟨he, bel⟩ => ?_
  subst he
  exact ⟨_, rfl, _, _, _, [], _, [], hW', trodAll_mk1 (shut_bool Tryz.underlying4 _), (trodAll_cons_mk (Below.trod laidOut (by kernel_rfl) (of_decide_eq_true (by kernel_rfl)) k0 bel lt0) (trodAll_cons_mk (Below.trod laidOut (by kernel_rfl) (of_decide_eq_true (by kernel_rfl)) k1 bel lt1) trodAll_mk0)), rfl, bel.frame _, fun h => by cases h⟩

theorem over : Rows.foldStraightRow.holds Tryz.pinned (OpenSpec.ofChange Rows.foldStraightSpec) :=
  OpenClaim.holds_of_wide 5 Tryz.f5 rfl rfl rfl rfl rfl rfl rfl ⟨rfl, rfl, rfl, rfl, rfl⟩ rfl rfl rfl rfl rfl (by kernel_rfl) Tryz.func5 (by kernel_rfl)
    (of_decide_eq_true (by kernel_rfl)) (by unfold Func.isWrapper; first | (rw [if_pos (by decide +kernel)]; kernel_rfl) | (rw [if_neg (by decide +kernel)]; exact ⟨rfl, rfl⟩))
    (fun os started H enc _ => lifted os started H enc)

/-- THE STATEMENT -/
theorem proved : Rows.FoldStraightSaid := over
#print axioms proved
end Go.Proofs.YtdchmelgaljpfaaGreat.foldStraight
