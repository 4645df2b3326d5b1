import Derived.Test.YtdchmelgaljpfaaGreatKc
set_option linter.unusedSimpArgs false
set_option linter.unusedVariables false
namespace Go.Proofs.YtdchmelgaljpfaaGreat
open Go.RowKit

/-! ### flow.Reached -/
set_option maxHeartbeats 4000000 in
set_option maxRecDepth 100000 in
theorem fReached_any (l : List In) (a : Option Addr) (c : Nat) (w : World) (h : Ins w (.slice a l.length c) l) (hok : InsOk l) :
    Calls Tryz.prog 52 #[.slice a l.length c] w fun e w' => ∃ ov, e = .returned (.tuple #[ov, .int .i64 (checkI l)]) ∧ (checkI l = 0 → Bls w' ov (rchL l)) ∧ Kept (fun _ => False) w w' ∧ ∀ g, ov.ownBlock = some g → w.heap.size ≤ g := by
  have HCK := Lib.hid (fun W hI => icheck_any l a c W hI hok)
  have HRE := Lib.hid (fun hz W hI => freached_any l a c W hI hok hz)
  have HIN := Lib.hid (fun (W : World) (hk : Kept (fun _ => False) w W) => h.kept hk)
  clear h hok
  by_cases hz : checkI l = 0
  case neg =>
    have hzd : (checkI l != 0) = true := by simpa using hz
    generalize checkI l = r at *
    have HNZ := Lib.hid hz
    clear hz HRE
    go_enter Tryz.func52, Tryz.ntmps52
    go_wp2_with fail
    refine (HCK.out _ (HIN.out _ (Kept.refl _ w))).mono ?_
    rintro e w1 ⟨⟨p, rfl⟩, hk1⟩
    go_wp2_with fail
    go_ret2
    exact ⟨_, rfl, fun h => absurd h HNZ.out, hk1, fun g hg => by simp [Value.ownBlock] at hg⟩
  case pos =>
    have HRE2 := Lib.hid (HRE.out hz)
    rw [hz] at HCK
    rw [hz]
    clear hz HRE
    go_enter Tryz.func52, Tryz.ntmps52
    go_wp2_with fail
    refine (HCK.out _ (HIN.out _ (Kept.refl _ w))).mono ?_
    rintro e w1 ⟨⟨p, rfl⟩, hk1⟩
    go_wp2_with fail
    refine (HRE2.out _ (HIN.out _ hk1)).mono ?_
    rintro e w2 ⟨ov, rfl, hB, hk2, ho2⟩
    have hsz := hk1.size
    go_wp2_with fail
    go_ret2
    exact ⟨_, rfl, fun _ => hB, hk1.trans hk2 (fun _ _ h => h), fun g hg => by have := ho2 g hg; omega⟩

/-! ### the document's next -/
end Go.Proofs.YtdchmelgaljpfaaGreat
