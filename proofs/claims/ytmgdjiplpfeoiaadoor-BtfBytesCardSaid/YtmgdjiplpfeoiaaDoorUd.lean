import Derived.Test.YtmgdjiplpfeoiaaDoorUc
import Derived.Test.YtmgdjiplpfeoiaaDoorMh
set_option linter.unusedSimpArgs false
set_option linter.unusedVariables false
namespace Go.Proofs.YtmgdjiplpfeoiaaDoor
open Go.RowKit

/-! ### the document's sizes -/
theorem size_alias {l : List Ty} (hg : Good l) {id : Int} {t : Ty} (h : tyAt l id = some t) (hk : t.kind = 5) : sizeL l id = sizeL l t.to := by
  have hs := hg.closed _ _ (alias_succ h hk)
  obtain ⟨u, hu, _⟩ := through_at hg.closed hg.acyc hs.1 hs.2
  have ht := through_alias hg.closed hg.acyc h hk
  rw [size_step hg.closed hg.acyc hu, size_step hg.closed hg.acyc (ht ▸ hu)]
theorem size_plain {l : List Ty} (hg : Good l) {id : Int} {t : Ty} (h : tyAt l id = some t) (hk : t.kind ≠ 5) : sizeL l id = if t.kind = 2 then 8 else if t.kind = 3 then min (t.count * sizeL l t.to) 65537 else if t.kind = 6 then 0 else t.size := by
  have ht := through_stop h hk
  rw [size_step hg.closed hg.acyc (ht.symm ▸ h)]
  split
  · rfl
  · split
    · rfl
    · split
      · rename_i h6
        obtain ⟨_, hw, _, _⟩ := hg.sized h
        unfold wholeB at hw
        simp only [Bool.and_eq_true, beq_iff_eq] at hw
        have hsz := hw.2.1.1.1.2
        rw [if_neg (by omega)] at hsz
        exact hsz
      · rfl
/-- what is known of sizes -/
def Memo (l : List Ty) (M : List Int) : Prop := M.length = l.length + 1 ∧ ∀ i : Nat, i < l.length → M[i + 1]? = some (-1) ∨ M[i + 1]? = some (sizeL l ((i : Int) + 1))
def Grew (l : List Ty) (M M' : List Int) : Prop := ∀ i : Nat, i < l.length → M'[i + 1]? = M[i + 1]? ∨ M'[i + 1]? = some (sizeL l ((i : Int) + 1))
theorem Grew.refl (l : List Ty) (M : List Int) : Grew l M M := fun _ _ => .inl rfl
theorem Memo.set {l : List Ty} {M : List Int} (h : Memo l M) {i : Nat} (hi : i < l.length) : Memo l (M.set (i + 1) (sizeL l ((i : Int) + 1))) ∧ Grew l M (M.set (i + 1) (sizeL l ((i : Int) + 1))) ∧ (M.set (i + 1) (sizeL l ((i : Int) + 1)))[i + 1]? = some (sizeL l ((i : Int) + 1)) := by
  have hl := h.1
  have key : ∀ j : Nat, (M.set (i + 1) (sizeL l ((i : Int) + 1)))[j + 1]? = if i = j then some (sizeL l ((i : Int) + 1)) else M[j + 1]? := fun j => by
    rw [List.getElem?_set]
    by_cases e : i = j
    · subst e; simp; omega
    · rw [if_neg (by omega), if_neg e]
  refine ⟨⟨by simpa using hl, fun j hj => ?_⟩, fun j hj => ?_, by rw [key, if_pos rfl]⟩
  · rw [key]
    by_cases e : i = j
    · subst e; rw [if_pos rfl]; exact .inr rfl
    · rw [if_neg e]; exact h.2 j hj
  · rw [key]
    by_cases e : i = j
    · subst e; rw [if_pos rfl]; exact .inr rfl
    · rw [if_neg e]; exact .inl rfl
theorem Grew.trans {l : List Ty} {A B C : List Int} (h : Grew l A B) (h2 : Grew l B C) : Grew l A C := fun i hi => by
  rcases h2 i hi with e | e
  · rw [e]; exact h i hi
  · exact .inr e

set_option maxHeartbeats 8000000 in
set_option maxRecDepth 100000 in
theorem bytes_ih (l : List Ty) (a : Option Addr) (c : Nat) (hg : Good l) (w0 : World) (h0 : Tys w0 (.slice a l.length c) l) (mb : Nat) (hm0 : w0.heap.size ≤ mb) : ∀ (f : Nat) (i : Nat) (M : List Int) (w : World), Kept (fun _ => False) w0 w → i < l.length → rk l ((i : Int) + 1) < f →
    Ints w (.slice (some ⟨mb, 0, none⟩) (l.length + 1) (l.length + 1)) M → Memo l M →
    Calls Tryd.prog 51 #[.slice a l.length c, .int .i64 ((i : Int) + 1), .slice (some ⟨mb, 0, none⟩) (l.length + 1) (l.length + 1)] w fun e w' => e = .returned (.int .i64 (sizeL l ((i : Int) + 1))) ∧
      ∃ M', Ints w' (.slice (some ⟨mb, 0, none⟩) (l.length + 1) (l.length + 1)) M' ∧ Memo l M' ∧ Grew l M M' ∧ M'[i + 1]? = some (sizeL l ((i : Int) + 1)) ∧ Kept (fun k => k = mb) w w'
  | 0, _, _, _, _, _, h, _, _ => absurd h (Nat.not_lt_zero _)
  | f + 1, i, M, w, hK, hi, hr, hI, hM => by
    have h256 := hg.fit.len
    obtain ⟨t, ht⟩ : ∃ t, l[i]? = some t := ⟨_, List.getElem?_eq_getElem hi⟩
    have hta := get_tyAt ht
    have hT := h0.kept hK
    obtain ⟨g, off, mv, rfl, hgl, hm, c0, c1, c2, c3, c4, c5, c6⟩ := hT.at_ ht
    obtain ⟨ma, mc, rfl⟩ := hm.any
    have hsr := hg.size_range _ ((i : Int) + 1) (Nat.lt_succ_self _) (by omega) (by omega)
    have hml := hM.1
    have hilt := Ints.lt hI
    rcases hM.2 i hi with hv | hv
    case inr =>
      have hc := Ints.cell hI hv
      go_enter Tryd.func51, Tryd.ntmps51
      go_wp2_with fail
      go_ret
      exact ⟨rfl, M, hI, hM, Grew.refl l M, hv, Kept.refl _ w⟩
    case inl =>
      have hc := Ints.cell hI hv
      have hB := Blk.new w 38 (tyVals t (.slice ma t.mem.length mc))
      have hkA : Kept (fun k => k = mb) w (w.alloc (.cells (tyVals t (.slice ma t.mem.length mc)) 38)) := (Kept.refl _ w).alloc _
      have hkA0 : Kept (fun _ => False) w (w.alloc (.cells (tyVals t (.slice ma t.mem.length mc)) 38)) := (Kept.refl _ w).alloc _
      have hIA : Ints (w.alloc (.cells (tyVals t (.slice ma t.mem.length mc)) 38)) (.slice (some ⟨mb, 0, none⟩) (l.length + 1) (l.length + 1)) M := Sl.kept hkA0 hI (fun _ _ h => h)
      -- what is written at the end
      have hfin : ∀ (w' : World) (M' : List Int), Ints w' (.slice (some ⟨mb, 0, none⟩) (l.length + 1) (l.length + 1)) M' → Memo l M' → Grew l M M' → Kept (fun k => k = mb) w w' →
          ∃ M'', Ints (w'.setCell ⟨mb, i + 1, none⟩ (.int .i64 (sizeL l ((i : Int) + 1)))) (.slice (some ⟨mb, 0, none⟩) (l.length + 1) (l.length + 1)) M'' ∧ Memo l M'' ∧ Grew l M M'' ∧ M''[i + 1]? = some (sizeL l ((i : Int) + 1)) ∧ Kept (fun k => k = mb) w (w'.setCell ⟨mb, i + 1, none⟩ (.int .i64 (sizeL l ((i : Int) + 1)))) := fun w' M' h1 h2 h3 h4 => by
        obtain ⟨s1, s2, s3⟩ := h2.set hi
        exact ⟨_, Ints.set h1 (by have := h2.1; omega) _, s1, h3.trans s2, s3, h4.trans (Kept.setCell (F := fun k => k = mb) (Kept.refl _ w') (fun _ => rfl) _) (fun k _ e => e)⟩
      have hcA := Ints.cell hIA hv
      have hfrA := Sl.frozen hIA (i + 1)
      have HFIN := Lib.hid hfin
      clear hfin
      by_cases h5 : t.kind = 5
      · have hst := size_alias hg hta h5
        have hs := alias_succ hta h5
        have hto := hg.closed _ _ hs
        have hrk := rk_lt hg.closed hg.acyc hs
        obtain ⟨j, hj⟩ : ∃ j : Nat, t.to = (j : Int) + 1 := ⟨(t.to - 1).toNat, by omega⟩
        have IH := bytes_ih l (some ⟨g, off, none⟩) c hg w0 h0 mb hm0 f j M _ (hK.trans hkA0 (fun _ _ h => h)) (by omega) (by rw [← hj]; omega) hIA hM
        rw [← hj, ← hst] at IH
        have IH2 := Lib.hid IH
        have e1 : (t.kind == 1) = false := by simp; omega
        have e4 : (t.kind == 4) = false := by simp; omega
        have e2 : (t.kind == 2) = false := by simp; omega
        have e3 : (t.kind == 3) = false := by simp; omega
        have e5 : (t.kind == 5) = true := by simpa using h5
        clear h5 hj IH hst
        go_enter Tryd.func51, Tryd.ntmps51
        go_wp2_with fail
        refine IH2.out.mono ?_
        rintro e w2 ⟨rfl, M2, hI2, hM2, hG2, hx2, hk2⟩
        have hfr2 := Sl.frozen hI2 (i + 1)
        obtain ⟨x, hx⟩ : ∃ x, M2[i + 1]? = some x := ⟨_, List.getElem?_eq_getElem (by have := hM2.1; omega)⟩
        have hc2 := Ints.cell hI2 hx
        clear hx2
        go_wp2_with fail
        go_ret
        exact ⟨rfl, HFIN.out w2 M2 hI2 hM2 hG2 (hkA.trans hk2 (fun k _ e => e))⟩
      have hst := size_plain hg hta h5
      have e5 : (t.kind == 5) = false := by simpa using h5
      by_cases h3 : t.kind = 3
      · rw [if_neg (by omega), if_pos h3] at hst
        have hs := array_succ hta h3
        have hto := hg.closed _ _ hs
        have hrk := rk_lt hg.closed hg.acyc hs
        obtain ⟨hc1, hc2⟩ := hg.count hta h3
        obtain ⟨j, hj⟩ : ∃ j : Nat, t.to = (j : Int) + 1 := ⟨(t.to - 1).toNat, by omega⟩
        have hsr2 := hg.size_range (rk l t.to + 1) t.to (by omega) hto.1 hto.2
        have hmul : 0 ≤ t.count * sizeL l t.to := Int.mul_nonneg hc1 hsr2.1
        have hmul2 : t.count * sizeL l t.to ≤ 65536 * 65537 := Int.mul_le_mul hc2 hsr2.2 hsr2.1 (by omega)
        have IH := bytes_ih l (some ⟨g, off, none⟩) c hg w0 h0 mb hm0 f j M ((w.alloc (.cells (tyVals t (.slice ma t.mem.length mc)) 38)).drew) ((hK.trans hkA0 (fun _ _ h => h)).drew) (by omega) (by rw [← hj]; omega) (Sl.drew hIA) hM
        rw [← hj] at IH
        have IH2 := Lib.hid IH
        have e1 : (t.kind == 1) = false := by simp; omega
        have e4 : (t.kind == 4) = false := by simp; omega
        have e2 : (t.kind == 2) = false := by simp; omega
        have e3 : (t.kind == 3) = true := by simpa using h3
        have HST := Lib.hid hst
        clear h3 h5 hj IH hst
        go_enter Tryd.func51, Tryd.ntmps51
        go_wp2_with fail
        refine wp_region_mix [.w, .l, .w, .w, .l, .w, .k, .w, .w, .w] (by kernel_rfl) (by kernel_rfl) (fun w' => Blk w' w.heap.size 38 (tyVals t (.slice ma t.mem.length mc))) ?_
        repeat (refine mix_w1 ?_; go_big_quiet_step (fail); refine wpQuiet_nil ?_)
        refine mix_load1 hB rfl 3 (.tmp 34) rfl naInt ⟨w.heap.size, 5, none⟩ (.int .i64 t.count) rfl (fun w' hw' => by have h9 := Blk.cell hw' 5; exact h9) ?_
        simp only [Act.put, List.setIfInBounds_toArray, List.set_cons_succ, List.set_cons_zero]
        repeat (refine mix_w1 ?_; go_big_quiet_step (fail); refine wpQuiet_nil ?_)
        refine mix_load1 hB rfl 3 (.tmp 37) rfl naInt ⟨w.heap.size, 4, none⟩ (.int .i64 t.to) rfl (fun w' hw' => by have h9 := Blk.cell hw' 4; exact h9) ?_
        simp only [Act.put, List.setIfInBounds_toArray, List.set_cons_succ, List.set_cons_zero]
        repeat (refine mix_w1 ?_; go_big_quiet_step (fail); refine wpQuiet_nil ?_)
        refine mix_k hB fun Q' hQ' => ?_
        go_wp2_with fail
        refine IH2.out.mono ?_
        rintro e w2 ⟨rfl, M2, hI2, hM2, hG2, hx2, hk2⟩
        have hB2 := hk2.blk (fun (h : w.heap.size = mb) => by omega) hB
        go_wp2_with fail
        refine hQ' _ _ hB2 ?_
        clear hQ' Q'
        repeat (refine mix_w1 ?_; go_big_quiet_step (fail); refine wpQuiet_nil ?_)
        refine mix_done ?_
        have hfr2 := Sl.frozen hI2 (i + 1)
        obtain ⟨x, hx⟩ : ∃ x, M2[i + 1]? = some x := ⟨_, List.getElem?_eq_getElem (by have := hM2.1; omega)⟩
        have hc2 := Ints.cell hI2 hx
        clear hx2
        go_wp2_with fail
        all_goals go_ret
        all_goals first
          | (have hV : t.count * sizeL l t.to = sizeL l ((i : Int) + 1) := by (rw [HST.out]; omega)
             rw [hV]
             exact ⟨rfl, HFIN.out w2 M2 hI2 hM2 hG2 (hkA.drew.trans hk2 (fun k _ e => e))⟩)
          | (have hV : 65537 = sizeL l ((i : Int) + 1) := by (rw [HST.out]; omega)
             rw [hV]
             exact ⟨rfl, HFIN.out w2 M2 hI2 hM2 hG2 (hkA.drew.trans hk2 (fun k _ e => e))⟩)
      have e3 : (t.kind == 3) = false := by simpa using h3
      by_cases h2 : t.kind = 2
      · rw [if_pos h2] at hst
        have e1 : (t.kind == 1) = false := by simp; omega
        have e4 : (t.kind == 4) = false := by simp; omega
        have e2 : (t.kind == 2) = true := by simpa using h2
        have hF := HFIN.out _ M hIA hM (Grew.refl l M) hkA
        rw [World.setCell_alloc_past _ _ _ _ hilt] at hF
        rw [hst] at hF ⊢
        have HF := Lib.hid hF
        clear h2 h3 h5 hst hF
        go_enter Tryd.func51, Tryd.ntmps51
        go_wp2_with fail
        go_ret
        exact ⟨rfl, HF.out⟩
      rw [if_neg h2, if_neg h3] at hst
      have e2 : (t.kind == 2) = false := by simpa using h2
      by_cases h6 : t.kind = 6
      · rw [if_pos h6] at hst
        have e1 : (t.kind == 1) = false := by simp; omega
        have e4 : (t.kind == 4) = false := by simp; omega
        have hF := HFIN.out _ M hIA hM (Grew.refl l M) hkA
        rw [World.setCell_alloc_past _ _ _ _ hilt] at hF
        rw [hst] at hF ⊢
        have HF := Lib.hid hF
        clear h2 h3 h5 h6 hst hF
        go_enter Tryd.func51, Tryd.ntmps51
        go_wp2_with fail
        go_ret
        exact ⟨rfl, HF.out⟩
      rw [if_neg h6] at hst
      have hk6 := (hg.sized hta).2.2
      have hF := HFIN.out _ M hIA hM (Grew.refl l M) hkA
      rw [World.setCell_alloc_past _ _ _ _ hilt] at hF
      rw [hst] at hF ⊢
      have HF := Lib.hid hF
      clear hst hF
      by_cases h1 : t.kind = 1
      · have e1 : (t.kind == 1) = true := by simpa using h1
        clear h1 h2 h3 h5 h6 hk6
        go_enter Tryd.func51, Tryd.ntmps51
        go_wp2_with fail
        go_ret
        exact ⟨rfl, HF.out⟩
      · have e1 : (t.kind == 1) = false := by simpa using h1
        have e4 : (t.kind == 4) = true := by simp; omega
        clear h1 h2 h3 h5 h6 hk6
        go_enter Tryd.func51, Tryd.ntmps51
        go_wp2_with fail
        go_ret
        exact ⟨rfl, HF.out⟩

set_option maxHeartbeats 4000000 in
set_option maxRecDepth 100000 in
theorem sizes_any (l : List Ty) (a : Option Addr) (c : Nat) (w : World) (h : Tys w (.slice a l.length c) l) (hg : Good l) :
    Calls Tryd.prog 28 #[.slice a l.length c] w fun e w' => ∃ (mb : Nat) (M : List Int), e = .returned (.slice (some ⟨mb, 0, none⟩) (l.length + 1) (l.length + 1)) ∧ Ints w' (.slice (some ⟨mb, 0, none⟩) (l.length + 1) (l.length + 1)) M ∧
      (∀ i : Nat, i < l.length → M[i + 1]? = some (sizeL l ((i : Int) + 1))) ∧ w.heap.size ≤ mb ∧ Kept (fun _ => False) w w' := by
  have h256 := hg.fit.len
  obtain ⟨i0, hI0, hI1, hI2, hI3⟩ := info_parts infoI
  go_enter Tryd.func28, Tryd.ntmps28
  go_wp2_with (refine wpList_makeSl (w := w) rfl (.tmp 8) (.tmp 8) 64 rfl (.int .i64 0) rfl Tryd.underlying64 hI0 hI1 hI2 hI3 (by omega) (l.length + 1) (by simp [Act.eval]) (by simp [Act.eval]) (by omega) ?_; intro w1 hB1 hk1)
  have hI1 : Ints w1 (.slice (some ⟨w.heap.size, 0, none⟩) (l.length + 1) (l.length + 1)) (List.replicate (l.length + 1) 0) := by
    unfold Ints
    rw [List.map_replicate]
    exact hB1
  go_loopw [4] (fun iv wr => ∃ (k : Nat) (M : List Int), iv = .int .i64 k ∧ k ≤ l.length + 1 ∧ Ints wr (.slice (some ⟨w.heap.size, 0, none⟩) (l.length + 1) (l.length + 1)) M ∧ M.length = l.length + 1 ∧ (∀ j : Nat, j < k → M[j]? = some (-1)) ∧ Kept (fun _ => False) w wr) (fun iv _ => l.length + 1 - (intOf iv).toNat)
  case atStart => exact ⟨0, _, rfl, Nat.zero_le _, hI1, by simp, fun j hj => by omega, hk1⟩
  case round =>
    clear hI1 hB1 hk1
    obtain ⟨k, M, rfl, hk, hI, hMl, hall, hK⟩ := hrel
    have hml := Ints.lt hI
    by_cases hlt : k < l.length + 1
    case pos =>
      obtain ⟨x, hx⟩ : ∃ x, M[k]? = some x := ⟨_, List.getElem?_eq_getElem (by omega)⟩
      have hcx := Ints.cell hI hx
      have hfr := Sl.frozen hI k
      have hIS := Ints.set hI (i := k) (by omega) (-1)
      have hnx : ∀ j : Nat, j < k + 1 → (M.set k (-1))[j]? = some (-1) := fun j hj => by
        rw [List.getElem?_set]
        by_cases e : k = j
        · subst e; rw [if_pos rfl, if_pos (by omega)]
        · rw [if_neg e]; exact hall j (by omega)
      have HNX := Lib.hid hnx
      have hKS : Kept (fun _ => False) w (wr.setCell ⟨w.heap.size, k, none⟩ (.int .i64 (-1))) := hK.trans (Kept.setCell (F := fun k => k = w.heap.size) (Kept.refl _ wr) (fun _ => rfl) _) (fun k hk e => by omega)
      clear hnx hall hx
      go_wp2_with fail
      exact ⟨⟨k + 1, _, by go_num, by omega, hIS, by simpa using hMl, HNX.out, hKS⟩, by simp [intOf]; omega⟩
    case neg =>
      obtain rfl : k = l.length + 1 := by omega
      have hM : Memo l M := ⟨hMl, fun i hi => .inl (hall _ (by omega))⟩
      have HM := Lib.hid hM
      clear hall hM
      rw [show ((l.length + 1 : Nat) : Int) = (l.length : Int) + 1 from by omega]
      go_wp2_with fail
      go_loopw [5] (fun iv wx => ∃ (k : Nat) (M : List Int), iv = .int .i64 ((k : Int) + 1) ∧ k ≤ l.length ∧ Ints wx (.slice (some ⟨w.heap.size, 0, none⟩) (l.length + 1) (l.length + 1)) M ∧ Memo l M ∧ (∀ j : Nat, j < k → M[j + 1]? = some (sizeL l ((j : Int) + 1))) ∧ Kept (fun _ => False) w wx) (fun iv _ => l.length + 1 - (intOf iv).toNat)
      case atStart => exact ⟨0, M, rfl, Nat.zero_le _, hI, HM.out, fun j hj => by omega, hK⟩
      case round =>
        clear hI HM hK hMl
        obtain ⟨k, M, rfl, hk, hI, hM, hall, hK⟩ := hrel
        by_cases hlt : k < l.length
        case pos =>
          have HALL := Lib.hid hall
          clear hall
          go_wp2_with fail
          refine (bytes_ih l a c hg w h w.heap.size (Nat.le_refl _) _ k M wr hK hlt (Nat.lt_succ_self _) hI hM).mono ?_
          rintro e w2 ⟨rfl, M2, hI2, hM2, hG2, hx2, hk2⟩
          have hnx : ∀ j : Nat, j < k + 1 → M2[j + 1]? = some (sizeL l ((j : Int) + 1)) := fun j hj => by
            by_cases e : j = k
            · subst e; exact hx2
            · rcases hG2 j (by omega) with e2 | e2
              · rw [e2]; exact HALL.out j (by omega)
              · exact e2
          have HNX := Lib.hid hnx
          clear hnx hx2 hG2
          go_wp2_with fail
          go_roundw
          case rel => exact ⟨k + 1, M2, by go_num, by omega, hI2, hM2, HNX.out, hK.trans hk2 (fun k hk e => by omega)⟩
          case measure => simp [intOf]; omega
        case neg =>
          obtain rfl : k = l.length := by omega
          have HALL := Lib.hid hall
          clear hall
          go_wp2_with fail
          go_ret
          exact ⟨_, M, rfl, hI, HALL.out, Nat.le_refl _, hK⟩

end Go.Proofs.YtmgdjiplpfeoiaaDoor
