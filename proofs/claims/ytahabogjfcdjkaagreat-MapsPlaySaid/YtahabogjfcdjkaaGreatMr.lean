import Derived.Test.YtahabogjfcdjkaaGreatMp
set_option linter.unusedSimpArgs false
set_option linter.unusedVariables false
namespace Go.Proofs.YtahabogjfcdjkaaGreat
open Go.RowKit

/-- why an update isn't done -/
def refC (S : MS) (ok : Bool) (flags : Int) : Int :=
  if 2 < flags then 96 else if ok = true ∧ flags = 1 then 94 else if ok = true then 0 else if S.d.kind = 1 then 93 else if flags = 2 then 92 else if S.d.entries ≤ S.ent.length then 93 else 0

set_option maxHeartbeats 2000000 in
set_option maxRecDepth 100000 in
theorem refuses_any (x : Loc) (S : MS) (L : List Rg) (ok : Bool) (flags : Int) (w : World) (h : Mp w x S L) :
    Calls Tryz.prog 42 #[.pointer (some ⟨x.q, 0, none⟩), .bool ok, .int .u64 flags] w fun e w' => e = .returned (.int .i64 (refC S ok flags)) ∧ ∃ n, w' = w.drewN n := by
  have hb := h.blk.cell
  simp only [MS.cells] at hb
  have hlen := fun ty => h.map.drew.len (P := Tryz.prog) Tryz.underlying58 ty
  have hl : S.vals.length = S.ent.length := by simp [MS.vals]
  rw [hl] at hlen
  have hfew := h.few
  clear hl
  unfold refC
  by_cases h1 : 2 < flags
  · rw [if_pos h1]
    clear hlen
    go_enter Tryz.func42, Tryz.ntmps42
    go_wp2
    go_ret
    exact ⟨rfl, 0, rfl⟩
  rw [if_neg h1]
  cases ok
  case true =>
    clear hlen
    by_cases h2 : flags = 1
    · subst h2
      rw [if_pos ⟨rfl, rfl⟩]
      clear h1
      go_enter Tryz.func42, Tryz.ntmps42
      go_wp2
      go_ret
      exact ⟨rfl, 0, rfl⟩
    · rw [if_neg (fun h => h2 h.2), if_pos rfl]
      have e2 : (flags == 1) = false := by simpa using h2
      clear h2
      go_enter Tryz.func42, Tryz.ntmps42
      go_wp2
      go_ret
      exact ⟨rfl, 0, rfl⟩
  case false =>
    rw [if_neg (fun h => by cases h.1), if_neg (by simp)]
    by_cases h3 : S.d.kind = 1
    · rw [if_pos h3]
      rw [h3] at hb
      clear h3 hlen
      go_enter Tryz.func42, Tryz.ntmps42
      go_wp2
      go_ret
      exact ⟨rfl, 0, rfl⟩
    · rw [if_neg h3]
      have e3 : (S.d.kind == 1) = false := by simpa using h3
      clear h3
      by_cases h4 : flags = 2
      · rw [if_pos h4]
        subst h4
        clear h1 hlen
        go_enter Tryz.func42, Tryz.ntmps42
        go_wp2
        go_ret
        exact ⟨rfl, 0, rfl⟩
      · rw [if_neg h4]
        have e4 : (flags == 2) = false := by simpa using h4
        clear h4
        by_cases h5 : S.d.entries ≤ S.ent.length
        · rw [if_pos h5]
          have e5 : decide (S.d.entries ≤ (S.ent.length : Int)) = true := by simpa using h5
          clear h5
          go_enter Tryz.func42, Tryz.ntmps42
          go_wp2
          refine wp_region_mix0 [.w, .w, .w, .l, .l, .w, .w, .w, .w, .l, .w, .w] (by kernel_rfl) (by kernel_rfl) ?_
          repeat (first
            | (refine mix_w1 ?_; go_big_quiet_step (fail); refine wpQuiet_nil ?_)
            | (refine mix_l1 rfl ?_; go_big_quiet_step (fail); refine wpQuiet_nil ?_))
          refine mix_nil ?_
          go_wp2
          go_ret
          exact ⟨rfl, 1, rfl⟩
        · rw [if_neg h5]
          have e5 : decide (S.d.entries ≤ (S.ent.length : Int)) = false := by simpa using h5
          clear h5
          go_enter Tryz.func42, Tryz.ntmps42
          go_wp2
          refine wp_region_mix0 [.w, .w, .w, .l, .l, .w, .w, .w, .w, .l, .w, .w] (by kernel_rfl) (by kernel_rfl) ?_
          repeat (first
            | (refine mix_w1 ?_; go_big_quiet_step (fail); refine wpQuiet_nil ?_)
            | (refine mix_l1 rfl ?_; go_big_quiet_step (fail); refine wpQuiet_nil ?_))
          refine mix_nil ?_
          go_wp2
          go_ret
          exact ⟨rfl, 1, rfl⟩

end Go.Proofs.YtahabogjfcdjkaaGreat
