import Derived.Test.YtmgdjiplpfeoiaaDoorPw
import Derived.Test.YtmgdjiplpfeoiaaDoorFw
import Derived.Test.YtmgdjiplpfeoiaaDoorTt
import Derived.Test.YtmgdjiplpfeoiaaDoorSg
set_option linter.unusedSimpArgs false
set_option linter.unusedVariables false
namespace Go.Proofs.YtmgdjiplpfeoiaaDoor
open Go.RowKit

def waysL (F : Nat → List UInt8 × Int) (o : Nat) : List (List UInt8) := (List.range o).filterMap fun j => if (F j).2 = 0 then some (F j).1 else none
section
variable {F : Nat → List UInt8 × Int}
theorem waysL_next (o : Nat) : waysL F (o + 1) = waysL F o ++ (if (F o).2 = 0 then [(F o).1] else []) := by
  unfold waysL
  rw [List.range_succ, List.filterMap_append]
  by_cases h : (F o).2 = 0 <;> simp [h]
theorem waysL_len (o : Nat) : (waysL F o).length ≤ o := by
  unfold waysL
  exact Nat.le_trans (List.length_filterMap_le ..) (by simp)
theorem waysL_pre (o : Nat) : ∀ N, o ≤ N → ∃ r, waysL F N = waysL F o ++ r
  | 0, h => ⟨[], by rw [show o = 0 by omega]; simp⟩
  | N + 1, h => by
    by_cases e : o = N + 1
    · exact ⟨[], by rw [e]; simp⟩
    · obtain ⟨r, hr⟩ := waysL_pre o N (by omega)
      exact ⟨r ++ _, by rw [waysL_next, hr, List.append_assoc]⟩
theorem waysL_mem {o : Nat} {s : List UInt8} (h : s ∈ waysL F o) : ∃ j, j < o ∧ (F j).2 = 0 ∧ (F j).1 = s := by
  unfold waysL at h
  simp only [List.mem_filterMap, List.mem_range] at h
  obtain ⟨j, hj, h⟩ := h
  split at h
  · exact ⟨j, hj, by assumption, Option.some.inj h⟩
  · cases h
end
def strRow (s : List UInt8) : List Value := [nV s]
theorem infoStr : (Tryd.prog.info? 9).map (fun i => (i.zero, i.size, i.bytes)) = some (some (nV []), 1, 16) := by kernel_rfl

set_option maxHeartbeats 4000000 in
set_option maxRecDepth 100000 in
theorem walk_ways (a : Option Addr) (c : Nat) (l : List Ty) (id sz : Int) (w : World) (h : Tys w (.slice a l.length c) l) (hr : Raw l) (htb : PowTab w) :
    Calls Tryd.prog 4 #[.slice a l.length c, .int .i64 id, .int .i64 sz] w fun e w' => e = .returned (.bool true) ∧ Kept (fun _ => False) w w' := by
  have hSZ := Lib.hid (fun W hW => sizeR_any l a c id W hW hr)
  have hFW := Lib.hid (fun W hW => few_any l a c W hW hr)
  by_cases h0 : (sizeR l id).2 = 0
  case neg =>
    generalize (sizeR l id).2 = ee at *
    generalize (sizeR l id).1 = ss at *
    have he : (ee == 0) = false := by simpa using h0
    have he2 : (ee != 0) = true := by simpa using h0
    clear h0
    go_enter Tryd.func4, Tryd.ntmps4
    go_wp2_with fail
    refine (known_any w).mono ?_
    rintro e w1 ⟨rfl, hk1⟩
    go_wp2_with fail
    refine (hSZ.out _ (h.kept hk1)).mono ?_
    rintro e w2 ⟨rfl, hk2⟩
    go_wp2_with fail
    refine (hFW.out _ ((h.kept hk1).kept hk2)).mono ?_
    rintro e w3 ⟨⟨b, rfl⟩, hk3⟩
    have hk := (hk1.trans hk2 (fun _ _ h => h)).trans hk3 (fun _ _ h => h)
    clear hk1 hk2 hk3
    cases b
    all_goals
      go_wp2_with fail
      go_ret
      exact ⟨rfl, hk⟩
  case pos =>
    have hbd := (sizeR_ok hr h0).2.2.2.2.2
    obtain ⟨N, hN⟩ : ∃ N : Nat, (sizeR l id).1 = (N : Int) := ⟨(sizeR l id).1.toNat, by omega⟩
    have hlaw := Lib.hid (fun o1 o2 h1 h2 e => ways_inj (id := id) (o1 := o1) (o2 := o2) hr h0 h1 h2 e)
    rw [h0, hN] at hSZ
    obtain ⟨F, hF⟩ : ∃ F : Nat → List UInt8 × Int, ∀ o : Nat, F o = fieldA l id (o : Int) sz := ⟨_, fun _ => rfl⟩
    have hFA : Hid (∀ (W : World) (o : Nat), Tys W (.slice a l.length c) l → PowTab W → o ≤ 1000 → Calls Tryd.prog 12 #[.slice a l.length c, .int .i64 id, .int .i64 (o : Int), .int .i64 sz] W fun e w' => e = .returned (.tuple #[nV (F o).1, .int .i64 (F o).2]) ∧ Kept (fun _ => False) W w') := Lib.hid (fun W o hT hP ho => by
      rw [hF]
      exact field_any l a c id (o : Int) sz W hT hr hP (by omega))
    have hL8 : Hid (sz = 8 → ∀ o1 o2 : Nat, (F o1).2 = 0 → (F o2).2 = 0 → (F o1).1 = (F o2).1 → o1 = o2) := Lib.hid (fun e8 o1 o2 h1 h2 e => by
      rw [hF] at h1 h2 e
      rw [hF] at e
      subst e8
      have := hlaw.out _ _ h1 h2 e
      omega)
    clear hF hlaw h0 hN hbd hr
    by_cases h100 : 100 < N
    · go_enter Tryd.func4, Tryd.ntmps4
      go_wp2_with fail
      refine (known_any w).mono ?_
      rintro e w1 ⟨rfl, hk1⟩
      go_wp2_with fail
      refine (hSZ.out _ (h.kept hk1)).mono ?_
      rintro e w2 ⟨rfl, hk2⟩
      go_wp2_with fail
      refine (hFW.out _ ((h.kept hk1).kept hk2)).mono ?_
      rintro e w3 ⟨⟨b, rfl⟩, hk3⟩
      have hk := (hk1.trans hk2 (fun _ _ h => h)).trans hk3 (fun _ _ h => h)
      clear hk1 hk2 hk3
      cases b
      all_goals
        go_wp2_with fail
        go_ret
        exact ⟨rfl, hk⟩
    go_enter Tryd.func4, Tryd.ntmps4
    go_wp2_with fail
    refine (known_any w).mono ?_
    rintro e w1 ⟨rfl, hk1⟩
    go_wp2_with fail
    refine (hSZ.out _ (h.kept hk1)).mono ?_
    rintro e w2 ⟨rfl, hk2⟩
    go_wp2_with fail
    refine (hFW.out _ ((h.kept hk1).kept hk2)).mono ?_
    rintro e w3 ⟨⟨b, rfl⟩, hk3⟩
    have hk := (hk1.trans hk2 (fun _ _ h => h)).trans hk3 (fun _ _ h => h)
    clear hk1 hk2 hk3
    cases b
    · go_wp2_with fail
      go_ret
      exact ⟨rfl, hk⟩
    go_wp2_with fail
    obtain ⟨i0, hI0, hI1, hI2, hI3⟩ := info_parts infoStr
    go_loopw [10, 9] (fun iv lv wr => ∃ o : Nat, iv = .int .i64 o ∧ o ≤ N ∧ Sg wr 9 1 lv ((waysL F o).map strRow) ∧ (∀ g, lv.ownBlock = some g → w.heap.size ≤ g) ∧ Kept (fun _ => False) w wr) (fun iv _ _ => N - (intOf iv).toNat)
    case atStart => exact ⟨0, rfl, Nat.zero_le _, Sg.nil _ _ _, fun g hg => by simp [Value.ownBlock] at hg, hk⟩
    case round =>
      clear hk
      obtain ⟨o, rfl, ho, hS, hown, hK⟩ := hrel
      have hlen : ((waysL F o).map strRow).length = (waysL F o).length := List.length_map ..
      have hle := waysL_len (F := F) o
      have hT := h.kept hK
      have hP := htb.kept hK
      by_cases hlt : o < N
      case neg =>
        obtain rfl : o = N := by omega
        obtain ⟨W2, rfl⟩ : ∃ W2 : World, W2 = wr := ⟨_, rfl⟩
        obtain ⟨lA, lC, hlv⟩ := hS.any
        rw [hlen] at hlv
        subst hlv
        clear hlen hown hle
        go_wp2_with fail
        go_loopw [14, 13] (fun iv av wr => ∃ q : Nat, iv = .int .i64 q ∧ av = .int .i64 ((waysL F q).length : Nat) ∧ q ≤ o ∧ Kept (fun _ => False) W2 wr) (fun iv _ _ => o - (intOf iv).toNat)
        case atStart => exact ⟨0, rfl, rfl, Nat.zero_le _, Kept.refl _ _⟩
        case round =>
          obtain ⟨q, rfl, rfl, hq, hK2⟩ := hrel
          have hT2 := hT.kept hK2
          have hP2 := hP.kept hK2
          by_cases hlt2 : q < o
          case neg =>
            have hlt3 : decide (q < o) = false := decide_eq_false hlt2
            go_wp2_with fail
            go_ret
            exact ⟨rfl, hK.trans hK2 (fun _ _ h => h)⟩
          case pos =>
            have hC := Lib.hid (hFA.out wr q hT2 hP2 (by omega))
            have hnx := waysL_next (F := F) q
            have hle := waysL_len (F := F) q
            by_cases hf : (F q).2 = 0
            · have HF := Lib.hid hf
              rw [hf] at hC
              rw [if_pos hf] at hnx
              have hnl : (waysL F (q + 1)).length = (waysL F q).length + 1 := by rw [hnx]; simp
              have HNL := Lib.hid hnl
              clear hf hnx hnl
              go_wp2_with fail
              refine hC.out.mono ?_
              rintro e w4 ⟨rfl, hk4⟩
              have hK4 := hK2.trans hk4 (fun _ _ h => h)
              go_wp2_with fail
              obtain ⟨W3, rfl⟩ : ∃ W3 : World, W3 = w4 := ⟨_, rfl⟩
              go_loopw [17] (fun kv wr => ∃ k : Nat, kv = .int .i64 k ∧ k ≤ (waysL F q).length ∧ Kept (fun _ => False) W3 wr) (fun kv _ => (waysL F q).length - (intOf kv).toNat)
              case atStart => exact ⟨0, rfl, Nat.zero_le _, Kept.refl _ _⟩
              case round =>
                obtain ⟨k, rfl, hk, hK5⟩ := hrel
                have hK6 := hK4.trans hK5 (fun _ _ h => h)
                by_cases hlt3 : k < (waysL F q).length
                case neg =>
                  obtain hke : k = (waysL F q).length := by omega
                  have hlt4 : decide (k < (waysL F q).length) = false := decide_eq_false hlt3
                  clear hke hlt3
                  go_wp2_with fail
                  exact ⟨⟨q + 1, by go_num, by rw [HNL.out]; go_num, by omega, hK6⟩, by simp [intOf]; omega⟩
                case pos =>
                  obtain ⟨rest, hpre⟩ := waysL_pre (F := F) q o (by omega)
                  obtain ⟨sk, hsk⟩ : ∃ sk, (waysL F q)[k]? = some sk := ⟨_, List.getElem?_eq_getElem hlt3⟩
                  have hsk2 : ((waysL F o).map strRow)[k]? = some (strRow sk) := by rw [List.getElem?_map, hpre, List.getElem?_append_left hlt3, hsk]; rfl
                  have hkl : k < (waysL F o).length := by rw [hpre, List.length_append]; omega
                  have hS6 := hS.kept hK6 (fun _ _ h => h)
                  obtain ⟨g, cap, hv, _⟩ := hS6.some_ (by rw [List.length_map]; omega)
                  obtain ⟨rfl, -, rfl⟩ := Value.slice.inj hv
                  have hcell := hS6.cell (i := k) (c := strRow sk) hsk2 (k := 0) (by omega)
                  rw [Nat.mul_one, Nat.add_zero] at hcell
                  have hcell2 : wr.cell? ⟨g, k, none⟩ = some (nV sk) := hcell
                  obtain ⟨j, hj, hj1, hj2⟩ := waysL_mem (List.mem_of_getElem? hsk)
                  have hle2 := waysL_len (F := F) o
                  have hne : sz = 8 → sk ≠ (F q).1 := fun e8 e => by
                    have := hL8.out e8 j q hj1 HF.out (hj2.trans e)
                    omega
                  clear hpre hsk hsk2 hv hcell hS6 hj1 hj2 hj
                  generalize (waysL F o).length = no at *
                  generalize (waysL F q).length = nq at *
                  by_cases h8 : sz = 8
                  · have hne2 : (sk == (F q).1) = false := by
                      have := hne h8
                      simpa using this
                    clear hne
                    subst h8
                    go_wp2_with fail
                    exact ⟨⟨k + 1, by go_num, by omega, hK5⟩, by simp [intOf]; omega⟩
                  · have e8 : (sz == 8) = false := by simpa using h8
                    clear hne h8
                    go_wp2_with fail
                    all_goals exact ⟨⟨k + 1, by go_num, by omega, hK5⟩, by simp [intOf]; omega⟩
            · rw [if_neg hf, List.append_nil] at hnx
              generalize (F q).2 = fv at *
              have he : (fv == 0) = false := by simpa using hf
              have he2 : (fv != 0) = true := by simpa using hf
              have HNX := Lib.hid hnx
              clear hf hnx
              go_wp2_with fail
              refine hC.out.mono ?_
              rintro e w4 ⟨rfl, hk4⟩
              go_wp2_with fail
              exact ⟨⟨q + 1, by go_num, by rw [HNX.out], by omega, hK2.trans hk4 (fun _ _ h => h)⟩, by simp [intOf]; omega⟩
      case pos =>
        have hC := Lib.hid (hFA.out wr o hT hP (by omega))
        have hnx := waysL_next (F := F) o
        by_cases hf : (F o).2 = 0
        · rw [hf] at hC
          rw [if_pos hf] at hnx
          have hnx2 : (waysL F (o + 1)).map strRow = (waysL F o).map strRow ++ [strRow (F o).1] := by rw [hnx, List.map_append]; rfl
          have HNX := Lib.hid hnx2
          clear hf hnx hnx2
          by_cases h1 : 1 < sz
          · go_wp2_with fail
            refine hC.out.mono ?_
            rintro e w4 ⟨rfl, hk4⟩
            have hS4 := hS.kept hk4 (fun _ _ h => h)
            have hK4 := hK.trans hk4 (fun _ _ h => h)
            go_wp2_with (at_builtin; refine wpList_pushG (w := w4) rfl (.tmp 54) (.tmp 56) 33 rfl Tryd.underlying33 hI0 hI1 hI2 hI3 rfl (by omega) _ ((waysL F o).map strRow) (strRow (F o).1) rfl rfl hS4 rfl (by simp [strRow, Value.oneCell']) (by rw [hlen]; omega) (by omega) ?_; intro g5 cap5 w5 hS5 hk5 hg5; rw [← HNX.out, hlen] at hS5; have hK5 : Kept (fun _ => False) w w5 := hK4.trans hk5 (fun k hk e => by have := hown k e; omega))
            have hown5 : ∀ g, (Value.slice (some ⟨g5, 0, none⟩) ((waysL F o).length + 1) cap5).ownBlock = some g → w.heap.size ≤ g := fun g' hg' => by
              simp only [Value.ownBlock, Option.some.injEq] at hg'
              subst hg'
              rcases hg5 with e | e
              · exact hown _ e
              · have := hK4.size
                omega
            exact ⟨⟨o + 1, by go_num, by omega, hS5, hown5, hK5⟩, by simp [intOf]; omega⟩
          · go_wp2_with fail
            refine hC.out.mono ?_
            rintro e w4 ⟨rfl, hk4⟩
            have hS4 := hS.kept hk4 (fun _ _ h => h)
            have hK4 := hK.trans hk4 (fun _ _ h => h)
            go_wp2_with (at_builtin; refine wpList_pushG (w := w4) rfl (.tmp 58) (.tmp 60) 33 rfl Tryd.underlying33 hI0 hI1 hI2 hI3 rfl (by omega) _ ((waysL F o).map strRow) (strRow (F o).1) rfl rfl hS4 rfl (by simp [strRow, Value.oneCell']) (by rw [hlen]; omega) (by omega) ?_; intro g5 cap5 w5 hS5 hk5 hg5; rw [← HNX.out, hlen] at hS5; have hK5 : Kept (fun _ => False) w w5 := hK4.trans hk5 (fun k hk e => by have := hown k e; omega))
            have hown5 : ∀ g, (Value.slice (some ⟨g5, 0, none⟩) ((waysL F o).length + 1) cap5).ownBlock = some g → w.heap.size ≤ g := fun g' hg' => by
              simp only [Value.ownBlock, Option.some.injEq] at hg'
              subst hg'
              rcases hg5 with e | e
              · exact hown _ e
              · have := hK4.size
                omega
            exact ⟨⟨o + 1, by go_num, by omega, hS5, hown5, hK5⟩, by simp [intOf]; omega⟩
        · rw [if_neg hf, List.append_nil] at hnx
          generalize (F o).2 = fv at *
          have he : (fv == 0) = false := by simpa using hf
          have he2 : (fv != 0) = true := by simpa using hf
          have HNX := Lib.hid hnx
          clear hf hnx
          go_wp2_with fail
          refine hC.out.mono ?_
          rintro e w4 ⟨rfl, hk4⟩
          go_wp2_with fail
          exact ⟨⟨o + 1, by go_num, by omega, by rw [HNX.out]; exact hS.kept hk4 (fun _ _ h => h), hown, hK.trans hk4 (fun _ _ h => h)⟩, by simp [intOf]; omega⟩

end Go.Proofs.YtmgdjiplpfeoiaaDoor
