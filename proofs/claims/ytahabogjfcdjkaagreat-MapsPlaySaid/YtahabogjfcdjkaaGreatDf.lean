import Derived.Test.YtahabogjfcdjkaaGreatDe
set_option linter.unusedSimpArgs false
set_option linter.unusedVariables false
namespace Go.Proofs.YtahabogjfcdjkaaGreat
open Go.RowKit

/-! ### the document's map: Keys, Key -/
theorem infoBs : (Tryz.prog.info? 39).map (fun i => (i.zero, i.size, i.bytes)) = some (some (.slice none 0 0), 1, 24) := by kernel_rfl
set_option maxHeartbeats 2000000 in
set_option maxRecDepth 100000 in
theorem rkeys_any (x : RLoc) (S : MS) (L : List Rg) (w : World) (h : RMp w x S L) (h3 : S.d.kind ≠ 3) :
    Calls Tryz.prog 37 #[.pointer (some ⟨x.q, 0, none⟩)] w fun e w' => ∃ (ov : Value) (R : List (Value × List UInt8)), e = .returned (.tuple #[ov, .int .i64 0]) ∧ Sl w' 39 1 ov (R.map kcell) ∧ (∀ y ∈ R, By w' y.1 y.2) ∧
      R.map (·.2) = S.ent.map (·.1) ∧ Kept (fun _ => False) w w' := by
  obtain ⟨i0, hI0, hI1, hI2, hI3⟩ := info_parts infoBs
  have e3 : (S.d.kind == 3) = false := by simpa using h3
  have hb := h.blk.cell
  simp only [MS.rcells] at hb
  have hfew := h.few
  have HH := Lib.hid h
  clear h h3
  go_enter Tryz.func37, Tryz.ntmps37
  go_wp2_with fail
  clear hb
  go_loopw [4, 5] (fun ov iv wr => ∃ (i : Nat) (R : List (Value × List UInt8)), iv = .int .i64 i ∧ i ≤ S.ent.length ∧ R.map (·.2) = (S.ent.take i).map (·.1) ∧ Sl wr 39 1 ov (R.map kcell) ∧ (∀ y ∈ R, By wr y.1 y.2) ∧
    (∀ y ∈ R, ∀ g, y.1.ownBlock = some g → w.heap.size ≤ g ∧ ov.ownBlock ≠ some g) ∧ (∀ g, ov.ownBlock = some g → w.heap.size ≤ g) ∧ Kept (fun _ => False) w wr) (fun _ iv _ => S.ent.length - (intOf iv).toNat)
  case atStart => exact ⟨0, [], rfl, by omega, rfl, Sl.nil _ _ _, by simp, by simp, by simp [Value.ownBlock], Kept.refl _ w⟩
  case round =>
  obtain ⟨i, R, rfl, hi, hR, hS, hBy, hfar, hov, hK⟩ := hrel
  have hM := HH.out.quiet hK
  have hb := hM.blk.cell
  simp only [MS.rcells] at hb
  obtain ⟨lA, lC, hlv⟩ := Sg.any hM.ent
  rw [List.length_map] at hlv
  have hRL : R.length = i := by
    have := congrArg List.length hR
    simp only [List.length_map, List.length_take] at this
    omega
  by_cases hlt : i < S.ent.length
  case neg =>
    obtain rfl : i = S.ent.length := by omega
    have hdl : decide ((S.ent.length : Int) < S.ent.length) = false := decide_eq_false (by omega)
    rw [List.take_length] at hR
    rw [hlv] at hb
    clear hM hlv
    go_wp2_with fail
    go_ret2
    exact ⟨_, R, rfl, hS, hBy, hR, hK⟩
  case pos =>
  have hdl : decide ((i : Int) < S.ent.length) = true := decide_eq_true (by omega)
  obtain ⟨y, hy⟩ : ∃ y, S.ent[i]? = some y := ⟨_, List.getElem?_eq_getElem hlt⟩
  obtain ⟨g, cap, hv, hcap, hgl⟩ := Sg.some_ hM.ent (by rw [List.length_map]; omega)
  rw [List.length_map] at hv
  rw [hv] at hb
  obtain ⟨e0, e1⟩ := hM.eCell hv hy
  obtain ⟨c, w2, hcv, hB2, hk2, hz2⟩ := run_bytes_sV (P := Tryz.prog) wr Tryz.underlying9 Tryz.underlying39 Tryz.underlying5 y.1
  have hS2 := hS.kept hk2 (fun g hg e => e)
  have hBy2 : ∀ y ∈ R, By w2 y.1 y.2 := fun y hy => (hBy y hy).kept hk2 (fun g hg e => e)
  have hK2 := hK.trans hk2 (fun _ _ h => h)
  have hRl : (R.map kcell).length < 1073741824 := by rw [List.length_map]; omega
  have hTK : (S.ent.take (i + 1)).map (·.1) = (S.ent.take i).map (·.1) ++ [y.1] := by rw [List.take_add_one, hy]; simp
  have hsz := hK.size
  clear hM hlv
  generalize hyk : y.1 = yk at *
  generalize hgn : wr.heap.size = gn at *
  have HTK := Lib.hid hTK
  have HR := Lib.hid hR
  have HBY := Lib.hid hBy
  have HFAR := Lib.hid hfar
  have HOV := Lib.hid hov
  have HBY2 := Lib.hid hBy2
  clear hTK hR hBy hfar hov hBy2
  go_wp2_with (at_builtin; refine wpList_push (w := w2) rfl (.tmp 21) (.tmp 31) 87 rfl Tryz.underlying87 hI0 hI1 hI2 hI3 rfl (by omega) _ (R.map kcell) [.slice (some ⟨gn, 0, none⟩) yk.length c] rfl rfl hS2 rfl (by simp [Value.oneCell']) hRl (by omega) ?_; intro g5 cap5 w5 hS5 hk5 hg5)
  have hSlt : ∀ g, u4.ownBlock = some g → g < w2.heap.size := fun g hg => hS2.lt g hg
  have hBlt : ∀ y ∈ R, ∀ g, y.1.ownBlock = some g → g < gn := fun y hy g hg => by have := (HBY.out y hy).lt g hg; omega
  have hg5n : g5 ≠ gn := fun e => by
    rcases hg5 with h | h
    · have := hS.lt g5 h; omega
    · omega
  refine ⟨⟨i + 1, R ++ [(.slice (some ⟨gn, 0, none⟩) yk.length c, yk)], by simp, by omega, by rw [List.map_append, HR.out, HTK.out]; rfl, ?_, fun z hz => ?_, fun z hz g hg => ?_, fun g hg => ?_, hK2.trans hk5 (fun k hk e => by have := HOV.out k e; omega)⟩, by simp [intOf]; omega⟩
  · rw [List.map_append]
    rw [List.length_map, hRL] at hS5
    exact hS5
  · rcases List.mem_append.1 hz with hz | hz
    · exact (HBY2.out z hz).kept hk5 (fun g hg e => (HFAR.out z hz g hg).2 e)
    · rw [List.mem_singleton.1 hz]
      refine hB2.kept hk5 (fun g hg e => ?_)
      have h1 := hS.lt g e
      simp only [Value.ownBlock, Option.some.injEq] at hg
      omega
  · have hne : g ≠ g5 ∧ w.heap.size ≤ g := by
      rcases List.mem_append.1 hz with hz | hz
      · have h1 := HFAR.out z hz g hg
        have h2 := hBlt z hz g hg
        refine ⟨fun e => ?_, h1.1⟩
        subst e
        rcases hg5 with h | h
        · exact h1.2 h
        · omega
      · rw [List.mem_singleton.1 hz] at hg
        simp only [Value.ownBlock, Option.some.injEq] at hg
        exact ⟨fun e => hg5n (by omega), by omega⟩
    refine ⟨hne.2, fun e => hne.1 ?_⟩
    simp only [Value.ownBlock, Option.some.injEq] at e
    exact e.symm
  · simp only [Value.ownBlock, Option.some.injEq] at hg
    subst hg
    rcases hg5 with h | h
    · exact HOV.out _ h
    · omega
set_option maxHeartbeats 400000 in
theorem rkeys_no (x : RLoc) (S : MS) (L : List Rg) (w : World) (h : RMp w x S L) (h3 : S.d.kind = 3) :
    Calls Tryz.prog 37 #[.pointer (some ⟨x.q, 0, none⟩)] w fun e w' => e = .returned (.tuple #[.slice none 0 0, .int .i64 95]) ∧ w = w' := by
  have hb := h.blk.cell
  simp only [MS.rcells] at hb
  rw [h3] at hb
  clear h h3
  go_enter Tryz.func37, Tryz.ntmps37
  go_wp2_with fail
  go_ret2
  exact ⟨rfl, rfl⟩
set_option maxHeartbeats 2000000 in
set_option maxRecDepth 100000 in
theorem rkey_any (x : RLoc) (S : MS) (L : List Rg) (id : Int) (w : World) (h : RMp w x S L) :
    Calls Tryz.prog 31 #[.pointer (some ⟨x.q, 0, none⟩), .int .i64 id] w fun e w' => ((∃ ov k, e = .returned (.tuple #[ov, .bool true]) ∧ By w' ov k ∧ (k, id) ∈ S.ent) ∨ (e = .returned (.tuple #[.slice none 0 0, .bool false]) ∧ ∀ y ∈ S.ent, y.2 ≠ id)) ∧ Kept (fun _ => False) w w' := by
  have hfew := h.few
  have HH := Lib.hid h
  clear h
  go_enter Tryz.func31, Tryz.ntmps31
  go_wp2_with fail
  go_loopw [6] (fun iv wr => ∃ i : Nat, iv = .int .i64 i ∧ i ≤ S.ent.length ∧ (∀ j z, j < i → S.ent[j]? = some z → z.2 ≠ id) ∧ Kept (fun _ => False) w wr) (fun iv _ => S.ent.length - (intOf iv).toNat)
  case atStart => exact ⟨0, rfl, by omega, fun j z hj => absurd hj (Nat.not_lt_zero _), Kept.refl _ w⟩
  case round =>
  obtain ⟨i, rfl, hi, hno, hK⟩ := hrel
  have HNO := Lib.hid hno
  have hM := HH.out.quiet hK
  have hb := hM.blk.cell
  simp only [MS.rcells] at hb
  obtain ⟨lA, lC, hlv⟩ := Sg.any hM.ent
  rw [List.length_map] at hlv
  clear hno
  by_cases hlt : i < S.ent.length
  case neg =>
    have hdl : decide ((i : Int) < S.ent.length) = false := decide_eq_false (by omega)
    rw [hlv] at hb
    clear hM hlv
    go_wp2_with fail
    go_ret2
    exact ⟨.inr ⟨rfl, fun y hy => by
      obtain ⟨j, hj⟩ := List.mem_iff_getElem?.1 hy
      exact HNO.out j y (by have := (List.getElem?_eq_some_iff.1 hj).1; omega) hj⟩, hK⟩
  case pos =>
  have hdl : decide ((i : Int) < S.ent.length) = true := decide_eq_true (by omega)
  obtain ⟨y, hy⟩ : ∃ y, S.ent[i]? = some y := ⟨_, List.getElem?_eq_getElem hlt⟩
  obtain ⟨g, cap, hv, hcap, hgl⟩ := Sg.some_ hM.ent (by rw [List.length_map]; omega)
  rw [List.length_map] at hv
  rw [hv] at hb
  obtain ⟨e0, e1⟩ := hM.eCell hv hy
  have HY := Lib.hid hy
  clear hM hlv hy
  by_cases hid : y.2 = id
  · have hbe : (y.2 == id) = true := by simpa using hid
    obtain ⟨c, w2, hcv, hB2, hk2, hz2⟩ := run_bytes_sV (P := Tryz.prog) wr Tryz.underlying9 Tryz.underlying39 Tryz.underlying5 y.1
    have HID := Lib.hid hid
    clear hid
    go_wp2_with fail
    go_ret2
    exact ⟨.inl ⟨_, y.1, rfl, hB2, by rw [← HID.out]; exact List.mem_of_getElem? HY.out⟩, hK.trans hk2 (fun _ _ h => h)⟩
  · have hbe : (y.2 == id) = false := by simpa using hid
    have HID := Lib.hid hid
    clear hid
    go_wp2_with fail
    go_roundw
    case rel => exact ⟨i + 1, by simp, by omega, fun j z hj hz => by
      by_cases e : j = i
      · subst e
        rw [HY.out] at hz
        cases hz
        exact HID.out
      · exact HNO.out j z (by omega) hz, hK⟩
    case measure => (simp [intOf]; omega)

end Go.Proofs.YtahabogjfcdjkaaGreat
