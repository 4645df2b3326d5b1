import Derived.Test.YtaehmaocibimeaaR7
set_option linter.unusedSimpArgs false
set_option linter.unusedVariables false
namespace Go.Proofs.Ytaehmaocibimeaa
open Go.RowKit

theorem dueL_len (to : Int) : ∀ (l out : List RT), (dueL to l out).length ≤ out.length + l.length
  | [], out => by simp [dueL]
  | t :: r, out => by
    simp only [dueL]
    by_cases h : t.armed = true ∧ t.when ≤ to
    · have := dueL_len to r (insL out t)
      rw [insL_len] at this
      rw [if_pos h]
      simp only [List.length_cons]
      omega
    · have := dueL_len to r out
      rw [if_neg h]
      simp only [List.length_cons]
      omega

set_option maxHeartbeats 1000000 in
theorem armedR_any (p : Nat) (v : Value) (R : RS) (w : World) (h : IsR w p v R) :
    Calls Try.prog 26 #[.pointer (some ⟨p, 0, none⟩)] w fun e w' => ∃ ov, e = .returned ov ∧ Sl w' 3 1 ov (((dueL 18446744073709551615 R.l []).map RT.id).map icell) ∧ (∀ g, ov.ownBlock = some g → w.heap.size ≤ g) ∧ Kept (fun _ => False) w w' := by
  obtain ⟨i0, hI0, hI1, hI2, hI3⟩ := info_parts info3
  have hlen := dueL_len 18446744073709551615 R.l []
  have hsm := h.small
  have hdu := dueR_any p v R 18446744073709551615 w h
  have HDU := Lib.hid hdu
  clear hdu
  go_enter Try.func26, Try.ntmps26
  go_wp2_with fail
  refine HDU.out.mono ?_
  rintro e w1 ⟨ov, rfl, hD, hDb, hk1⟩
  clear HDU
  generalize hL : dueL 18446744073709551615 R.l [] = L at *
  have HL := Lib.hid hL
  clear hL h
  obtain ⟨A, c, rfl⟩ := hD.any
  simp only [List.length_map, List.length_nil, Nat.zero_add] at hD hDb hlen ⊢
  have hlen1 : L.length ≤ 1000000 := by omega
  clear hlen
  have hs1 := hk1.size
  go_wp2_with fail
  go_loopw [3, 5] (fun av iv wr => ∃ i : Nat, iv = .int .i64 i ∧ i ≤ L.length ∧ Sl wr 3 1 av (((L.take i).map RT.id).map icell) ∧ (∀ g, av.ownBlock = some g → w1.heap.size ≤ g) ∧ Kept (fun _ => False) w1 wr) (fun _ iv _ => L.length - (intOf iv).toNat)
  case atStart => exact ⟨0, rfl, Nat.zero_le _, Sl.nil _ _ _, by simp [Value.ownBlock], Kept.refl _ w1⟩
  case round =>
    obtain ⟨i, rfl, hi, hO, hOb, hK⟩ := hrel
    by_cases hlt : i < L.length
    case neg =>
      obtain rfl : i = L.length := by omega
      go_wp2_with fail
      go_ret
      refine ⟨_, rfl, by rw [HL.out]; rw [List.take_length] at hO; exact hO, fun g hg => Nat.le_trans hs1 (hOb g hg), hk1.trans hK (fun _ _ h => h)⟩
    case pos =>
      have hD' := hD.kept hK (fun _ _ h => h)
      obtain ⟨g, cap, hv, _, hg⟩ := hD'.some_ (by simp; omega)
      simp only [Value.slice.injEq] at hv
      obtain ⟨rfl, -, rfl⟩ := hv
      obtain ⟨x0, _, _, _, _, _, _⟩ := RT.cellsAt (L := L) (by simpa using hD'.sg) hlt
      have htk : (L.take (i + 1)).map RT.id = (L.take i).map RT.id ++ [(L[i]).id] := by rw [List.take_succ_eq_append_getElem hlt, List.map_append]; rfl
      have hln : (((L.take i).map RT.id).map icell).length = i := by simp; omega
      generalize hq : (L[i]).id = q at *
      have HTK := Lib.hid htk
      have HLN := Lib.hid hln
      clear htk hq hln
      go_wp2_with (at_builtin; refine wpList_push (w := wr) rfl (.tmp 14) (.tmp 20) 43 rfl Try.underlying43 hI0 hI1 hI2 hI3 rfl (by omega) u3 (((L.take i).map RT.id).map icell) (icell q) rfl rfl hO rfl (icell_one _) (by rw [HLN.out]; omega) (by omega) ?_; intro g5 cap5 w5 hS5 hk5 hg5; rw [HLN.out] at hS5; rw [HLN.out])
      have hK5 : Kept (fun _ => False) w1 w5 := hK.trans hk5 (fun x hx e => by have := hOb x e; omega)
      have hKs := hK.size
      have hob : ∀ g', (Value.slice (some ⟨g5, 0, none⟩) (i + 1) cap5).ownBlock = some g' → w1.heap.size ≤ g' := fun g' hg' => by
        simp only [Value.ownBlock, Option.some.injEq] at hg'
        subst hg'
        rcases hg5 with e | e
        · exact hOb _ e
        · omega
      go_roundw
      case rel => exact ⟨i + 1, by go_num, by omega, by rw [HTK.out, List.map_append]; exact hS5, hob, hK5⟩
      case measure => simp [intOf]; omega

end Go.Proofs.Ytaehmaocibimeaa
