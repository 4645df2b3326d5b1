import Derived.Test.YtmgdjiplpfeoiaaDoorTs
set_option linter.unusedSimpArgs false
set_option linter.unusedVariables false
namespace Go.Proofs.YtmgdjiplpfeoiaaDoor
open Go.RowKit

set_option maxHeartbeats 2000000 in
set_option maxRecDepth 100000 in
theorem functions_any (l : List Ty) (a : Option Addr) (c : Nat) (i : Nat) (t : Ty) (ma : Option Addr) (mc : Nat) (w : World) (h : Tys w (.slice a l.length c) l) (hg : Good l) (ht : l[i]? = some t) (hm : Mbs w (.slice ma t.mem.length mc) t.mem) :
    Calls Tryd.prog 36 #[.slice a l.length c, .agg (tyVals t (.slice ma t.mem.length mc))] w fun e w' => e = .returned (.bool (functionsB l t)) ∧ Kept (fun _ => False) w w' := by
  have h256 := hg.fit.len
  have hkA : Kept (fun _ => False) w (w.alloc (.cells (tyVals t (.slice ma t.mem.length mc)) 38)) := (Kept.refl _ w).alloc _
  by_cases h5 : t.kind = 5
  · have hF : functionsB l t = false := by unfold functionsB; rw [if_pos h5]
    have e5 : (t.kind == 5) = true := by simpa using h5
    clear h5
    go_enter Tryd.func36, Tryd.ntmps36
    go_wp2_with fail
    go_ret
    exact ⟨by first | rfl | (rw [hF]; rfl), hkA⟩
  have hF : functionsB l t = (holdsL t).any fun to => kindAt l (throughL l to) == 6 := by unfold functionsB; rw [if_neg h5]
  have hin : ∀ b ∈ holdsL t, 1 ≤ b ∧ b ≤ (l.length : Int) := whole_closed (alone_sized (hg.alone i t ht)).2.1
  have e5 : (t.kind == 5) = false := by simpa using h5
  clear h5
  have HF := Lib.hid hF
  clear hF
  go_enter Tryd.func36, Tryd.ntmps36
  go_wp2_with fail
  refine (holds_any t ma mc _ (hm.kept hkA) (hg.fit.mem t (List.mem_of_getElem? ht))).mono ?_
  rintro e w2 ⟨ov, rfl, hS, _, hk2⟩
  have hK2 := hkA.trans hk2 (fun _ _ h => h)
  have h2 := h.kept hK2
  obtain ⟨oA, oC, hov⟩ := hS.any
  rw [List.length_map] at hov
  subst hov
  have hn : (holdsL t).length ≤ 64 := by
    have := hg.fit.mem t (List.mem_of_getElem? ht)
    unfold holdsL
    split
    · simp
    · split <;> simp <;> omega
  go_wp2_with fail
  go_loopw [13] (fun iv wr => ∃ j : Nat, iv = .int .i64 j ∧ j ≤ (holdsL t).length ∧ (((holdsL t).take j).any fun to => kindAt l (throughL l to) == 6) = false ∧ w2 = wr) (fun iv _ => (holdsL t).length - (intOf iv).toNat)
  case atStart => exact ⟨0, rfl, Nat.zero_le _, by simp, rfl⟩
  case round =>
    obtain ⟨j, rfl, hj, hany, rfl⟩ := hrel
    by_cases hlt : j < (holdsL t).length
    case neg =>
      obtain rfl : j = (holdsL t).length := by omega
      rw [List.take_length] at hany
      go_wp2_with fail
      go_ret
      exact ⟨by rw [HF.out, hany]; rfl, hK2⟩
    case pos =>
      obtain ⟨b, hb⟩ : ∃ b, (holdsL t)[j]? = some b := ⟨_, List.getElem?_eq_getElem hlt⟩
      have hbm := List.mem_of_getElem? hb
      obtain ⟨b1, b2⟩ := hin b hbm
      obtain ⟨k, hk⟩ : ∃ k : Nat, b = (k : Int) + 1 := ⟨(b - 1).toNat, by omega⟩
      subst hk
      obtain ⟨gk, cap', hkv, hkcap, hgk⟩ := hS.some_ (by simp; omega)
      obtain ⟨rfl, -, rfl⟩ := Value.slice.inj hkv
      clear hkv
      have hcb : w2.cell? ⟨gk, j, none⟩ = some (.int .i64 ((k : Int) + 1)) := by
        have := hS.cell (i := j) (c := icell' ((k : Int) + 1)) (by simp [hb]) (k := 0) (by omega)
        simpa [icell'] using this
      obtain ⟨k2, u, hk1, hk2', hta, hk5⟩ := through_ix hg (i := k) (by omega)
      have hka : kindAt l (throughL l ((k : Int) + 1)) = u.kind := by unfold kindAt; rw [hta]; rfl
      obtain ⟨g, off, mv, rfl, hgl, hm', c0, c1, c2, c3, c4, c5, c6⟩ := h2.at_ hk2'
      have hnx : (((holdsL t).take (j + 1)).any fun to => kindAt l (throughL l to) == 6) = (u.kind == 6) := by
        rw [List.take_add_one, hb, List.any_append, hany]
        simp [hka]
      have hk2l := (List.getElem?_eq_some_iff.1 hk2').1
      have hgood : (u.kind == 6) = true → ((holdsL t).any fun to => kindAt l (throughL l to) == 6) = true := fun h => by
        rw [List.any_eq_true]
        exact ⟨_, hbm, by rw [hka]; exact h⟩
      have HG := Lib.hid hgood
      have HNX := Lib.hid hnx
      clear hgood hnx
      go_wp2_with fail
      refine (through_any l _ c k _ h2 hg (by omega)).mono ?_
      rw [hk1]
      rintro e w3 ⟨rfl, rfl⟩
      cases e6 : (u.kind == 6) with
      | true =>
        go_wp2_with fail
        go_ret
        exact ⟨by rw [HF.out, HG.out e6]; rfl, hK2⟩
      | false =>
        go_wp2_with fail
        exact ⟨⟨j + 1, by go_num, by omega, by rw [HNX.out, e6], trivial⟩, by simp [intOf]; omega⟩

end Go.Proofs.YtmgdjiplpfeoiaaDoor
