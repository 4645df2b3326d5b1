import Derived.Test.YtmgdjiplpfeoiaaDoorTq
set_option linter.unusedSimpArgs false
set_option linter.unusedVariables false
namespace Go.Proofs.YtmgdjiplpfeoiaaDoor
open Go.RowKit

def memberB (l : List Ty) (off n : Int) (m : Mb) : Bool := decide (m.bits.tdiv 8 ≤ off) && decide (off + n ≤ m.bits.tdiv 8 + sizeL l m.type)
abbrev mbVals (m : Mb) : Array Value := #[nV m.name, .int .i64 m.type, .int .i64 m.bits]
def mb0 : Mb := ⟨[], 0, 0⟩
def memberR (l : List Ty) (off n : Int) (ms : List Mb) : Mb × Bool := match ms.find? (memberB l off n) with
  | some m => (m, true)
  | none => (mb0, false)

set_option maxHeartbeats 4000000 in
set_option maxRecDepth 100000 in
theorem member_any (l : List Ty) (a : Option Addr) (c : Nat) (i : Nat) (t : Ty) (ma : Option Addr) (mc : Nat) (off n : Int) (w : World) (h : Tys w (.slice a l.length c) l) (hg : Good l) (ht : l[i]? = some t) (hk : t.kind = 4) (hm : Mbs w (.slice ma t.mem.length mc) t.mem) (ho : 0 ≤ off ∧ off ≤ 1000000) (hn : 0 ≤ n ∧ n ≤ 8) :
    Calls Tryd.prog 26 #[.slice a l.length c, .agg (tyVals t (.slice ma t.mem.length mc)), .int .i64 off, .int .i64 n] w fun e w' => e = .returned (.tuple #[.agg (mbVals (memberR l off n t.mem).1), .bool (memberR l off n t.mem).2]) ∧ Kept (fun _ => False) w w' := by
  have h256 := hg.fit.len
  have h64 := hg.fit.mem t (List.mem_of_getElem? ht)
  have hbits := hg.bits t (List.mem_of_getElem? ht)
  have hin : ∀ m ∈ t.mem, 1 ≤ m.type ∧ m.type ≤ (l.length : Int) := fun m hm => by
    refine whole_closed (alone_sized (hg.alone i t ht)).2.1 m.type ?_
    unfold holdsL
    rw [if_neg (by omega), if_pos hk]
    exact List.mem_map.2 ⟨m, hm, rfl⟩
  clear hk
  go_enter Tryd.func26, Tryd.ntmps26
  go_wp2_with fail
  have hB0 : Blk ((w.alloc (.cells (tyVals t (.slice ma t.mem.length mc)) 38)).alloc (.cells (mbVals mb0) 42)) (w.heap.size + 1) 42 (mbVals mb0) := by
    have := Blk.new (w.alloc (.cells (tyVals t (.slice ma t.mem.length mc)) 38)) 42 (mbVals mb0)
    rw [alloc_size] at this
    exact this
  go_loopw [16] (fun iv wr => ∃ j : Nat, iv = .int .i64 j ∧ j ≤ t.mem.length ∧ (t.mem.take j).find? (memberB l off n) = none ∧ Blk wr (w.heap.size + 1) 42 (mbVals mb0) ∧ Kept (fun _ => False) w wr) (fun iv _ => t.mem.length - (intOf iv).toNat)
  case atStart => exact ⟨0, rfl, Nat.zero_le _, rfl, hB0, ((Kept.refl _ w).alloc _).alloc _⟩
  case round =>
    obtain ⟨j, rfl, hj, hnone, hb, hK⟩ := hrel
    by_cases hlt : j < t.mem.length
    case neg =>
      obtain rfl : j = t.mem.length := by omega
      rw [List.take_length] at hnone
      have hR : memberR l off n t.mem = (mb0, false) := by unfold memberR; rw [hnone]
      have hb0 := hb.cell
      have hf0 := hb.frozen
      go_wp2_with fail
      have hb1 := ((hb.set_ 0 (nV [])).set_ 1 (.int .i64 0)).set_ 2 (.int .i64 0)
      have hc1 := hb1.cell
      refine bodyPost_ret (v := .tuple #[.agg (mbVals mb0), .bool false]) (by simp [results, Tryd.results26, go_sem, hc1, mb0]) rfl ⟨by rw [hR], ?_⟩
      have hlt : ∀ o, (⟨w.heap.size + 1, o, none⟩ : Addr).block < w.heap.size → False := fun o h => by
        have h : w.heap.size + 1 < w.heap.size := h
        omega
      exact ((hK.setCell (p := ⟨w.heap.size + 1, 0, none⟩) (hlt 0) _).setCell (p := ⟨w.heap.size + 1, 1, none⟩) (hlt 1) _).setCell (p := ⟨w.heap.size + 1, 2, none⟩) (hlt 2) _
    case pos =>
      obtain ⟨m, hmi⟩ : ∃ m, t.mem[j]? = some m := ⟨_, List.getElem?_eq_getElem hlt⟩
      have hmm := List.mem_of_getElem? hmi
      obtain ⟨hb1, hb2⟩ := hbits m hmm
      obtain ⟨hm1, hm2⟩ := hin m hmm
      obtain ⟨gm, om, rfl, hgm, d0, d1, d2⟩ := (hm.kept hK).at_ hmi
      have hkB : Kept (fun _ => False) wr (wr.alloc (.cells (mbVals m) 42)) := (Kept.refl _ wr).alloc _
      have hBm := Blk.new wr 42 (mbVals m)
      have hbB := hkB.blk (fun h => h) hb
      have hq1 : -1152921504606846976 ≤ m.bits.tdiv 8 ∧ m.bits.tdiv 8 ≤ 1152921504606846976 := by
        rcases Int.le_total 0 m.bits with h | h
        · rw [Int.tdiv_eq_ediv_of_nonneg h]; omega
        · have : m.bits.tdiv 8 = -((-m.bits).tdiv 8) := by rw [Int.neg_tdiv]; omega
          rw [this, Int.tdiv_eq_ediv_of_nonneg (by omega)]
          omega
      have hmb : memberB l off n m = (decide (m.bits.tdiv 8 ≤ off) && decide (off + n ≤ m.bits.tdiv 8 + sizeL l m.type)) := rfl
      have hnx : (t.mem.take (j + 1)).find? (memberB l off n) = if memberB l off n m = true then some m else none := by
        rw [List.take_add_one, hmi, List.find?_append, hnone]
        simp only [Option.none_or, Option.toList_some, List.find?_cons, List.find?_nil]
        cases memberB l off n m <;> rfl
      have hhit : memberB l off n m = true → memberR l off n t.mem = (m, true) := fun h => by
        have h1 := hnx
        rw [if_pos h] at h1
        have : t.mem.find? (memberB l off n) = some m := by
          conv => lhs; rw [← List.take_append_drop (j + 1) t.mem]
          rw [List.find?_append, h1]
          rfl
        unfold memberR
        rw [this]
      have HMB := Lib.hid hmb
      have HNX := Lib.hid hnx
      have HHIT := Lib.hid hhit
      clear hmb hnx hhit
      generalize hqq : m.bits.tdiv 8 = q at *
      by_cases h1 : q ≤ off
      case neg =>
        have hf : memberB l off n m = false := by rw [HMB.out]; simp [h1]
        have hnx := HNX.out
        rw [if_neg (by rw [hf]; simp)] at hnx
        go_wp2_with fail
        go_roundw
        case rel => exact ⟨j + 1, by go_num, by omega, hnx, hbB, hK.alloc _⟩
        case measure => simp [intOf]; omega
      obtain ⟨k, hk⟩ : ∃ k : Nat, m.type = (k : Int) + 1 := ⟨(m.type - 1).toNat, by omega⟩
      have hsr := hg.size_range (rk l m.type + 1) m.type (by omega) hm1 hm2
      have IH := Lib.hid (show ∀ W, Tys W (.slice a l.length c) l → Calls Tryd.prog 24 #[.slice a l.length c, .int .i64 m.type] W (fun e w' => e = .returned (.int .i64 (sizeL l m.type)) ∧ Kept (fun _ => False) W w') from fun W hW => by
        rw [hk]
        exact size_ih l a c hg (rk l ((k : Int) + 1) + 1) k W hW (by omega) (by omega))
      clear hk
      go_wp2_with fail
      refine (IH.out _ ((h.kept hK).kept hkB)).mono ?_
      rintro e w2 ⟨rfl, hk2⟩
      have hb2 := hk2.blk (fun h => h) hbB
      have hBm2 := hk2.blk (fun h => h) hBm
      have hK2 := (hK.trans hkB (fun _ _ h => h)).trans hk2 (fun _ _ h => h)
      by_cases h2 : off + n ≤ q + sizeL l m.type
      · have hf : memberB l off n m = true := by rw [HMB.out]; simp [h1, h2]
        have hR := HHIT.out hf
        have hc2 := hBm2.cell
        have hb0 := hb2.cell
        have hf0 := hb2.frozen
        go_wp2_with fail
        have hb1 := ((hb2.set_ 0 (nV m.name)).set_ 1 (.int .i64 m.type)).set_ 2 (.int .i64 m.bits)
        have hc1 := hb1.cell
        refine bodyPost_ret (v := .tuple #[.agg (mbVals m), .bool true]) (by simp [results, Tryd.results26, go_sem, hc1, mb0]) rfl ⟨by rw [hR], ?_⟩
        have hlt : ∀ o, (⟨w.heap.size + 1, o, none⟩ : Addr).block < w.heap.size → False := fun o h => by
          have h : w.heap.size + 1 < w.heap.size := h
          omega
        exact ((hK2.setCell (p := ⟨w.heap.size + 1, 0, none⟩) (hlt 0) _).setCell (p := ⟨w.heap.size + 1, 1, none⟩) (hlt 1) _).setCell (p := ⟨w.heap.size + 1, 2, none⟩) (hlt 2) _
      · have hf : memberB l off n m = false := by rw [HMB.out]; simp [h2]
        have hnx := HNX.out
        rw [if_neg (by rw [hf]; simp)] at hnx
        go_wp2_with fail
        go_roundw
        case rel => exact ⟨j + 1, by go_num, by omega, hnx, hb2, hK2⟩
        case measure => simp [intOf]; omega

end Go.Proofs.YtmgdjiplpfeoiaaDoor
set_option linter.unusedSimpArgs false
set_option linter.unusedVariables false
namespace Go.Proofs.YtmgdjiplpfeoiaaDoor
open Go.RowKit

/-- how one gets to bytes of a type, where there is no array -/
noncomputable def fieldN (l : List Ty) (n : Int) : Nat → Int → Int → List UInt8 → List UInt8 × Int
  | 0, _, _, _ => ([], 41)
  | f + 1, id, off, way => match tyAt l (throughL l id) with
    | none => ([], 41)
    | some t => if t.kind = 1 ∨ t.kind = 2 then (if sizeL l id < off + n then ([], 41) else (way, 0)) else
      if (memberR l off n t.mem).2 = true then fieldN l n f (memberR l off n t.mem).1.type (off - (memberR l off n t.mem).1.bits.tdiv 8) (way ++ 46 :: (memberR l off n t.mem).1.name) else ([], 41)
noncomputable def fieldR (l : List Ty) (id off n : Int) : List UInt8 × Int :=
  if (sizeR l id).2 ≠ 0 then ([], (sizeR l id).2) else if off < 0 ∨ ¬ (n = 1 ∨ n = 2 ∨ n = 4 ∨ n = 8) ∨ (sizeR l id).1 < off ∨ (sizeR l id).1 - off < n then ([], 43) else fieldN l n (l.length + 1) id off []

theorem sizeR_ok {l : List Ty} (hr : Raw l) {id : Int} (h : (sizeR l id).2 = 0) : Good l ∧ (firstF (pF l) l.length = none ∧ firstF (pL l) l.length = none) ∧ 1 ≤ id ∧ id ≤ (l.length : Int) ∧ kindAt l (throughL l id) ≠ 6 ∧ 0 ≤ (sizeR l id).1 ∧ (sizeR l id).1 ≤ 65537 := by
  unfold sizeR at *
  split at h
  · rename_i h1; exact absurd h h1
  · rename_i h1
    split at h
    · cases h
    · rename_i h2
      have h0 : (resolveL l id).2 = 0 := by simpa using h1
      obtain ⟨hc, i1, i2, ht⟩ := resolve_ok h0
      obtain ⟨hg, hF, hL⟩ := good_of hr hc
      rw [ht] at h2
      refine ⟨hg, ⟨hF, hL⟩, i1, i2, h2, ?_⟩
      rw [if_neg h1, if_neg (by rw [ht]; exact h2), ht]
      obtain ⟨i, rfl⟩ : ∃ i : Nat, id = (i : Int) + 1 := ⟨(id - 1).toNat, by omega⟩
      obtain ⟨k, t, hk1, hk2, _, _⟩ := through_ix hg (i := i) (by omega)
      rw [hk1]
      have hkl := (List.getElem?_eq_some_iff.1 hk2).1
      exact hg.size_range _ _ (Nat.lt_succ_self _) (by omega) (by omega)

theorem alone_names {l : List Ty} {i : Nat} {t : Ty} (h : aloneC l i t = 0) (hk : t.kind ≠ 6) : ∀ m ∈ t.mem, m.name.length ≤ 32 := by
  have hmb : membersB t = true := by
    unfold aloneC at h
    split at h
    · cases h
    · split at h
      · cases h
      · split at h
        · cases h
        · split at h
          · cases h
          · rename_i h4
            simpa using h4
  intro m hm
  obtain ⟨j, hj, e⟩ := List.mem_iff_getElem.1 hm
  unfold membersB at hmb
  rw [List.all_eq_true] at hmb
  have := hmb j (List.mem_range.2 hj)
  unfold memOk at this
  rw [List.getElem?_eq_getElem hj, e] at this
  simp only [Bool.or_eq_true, Bool.and_eq_true, beq_iff_eq] at this
  rcases this with ⟨h1, _⟩ | ⟨_, h2⟩
  · exact absurd h1 hk
  · unfold nameB at h2
    simp only [Bool.and_eq_true, decide_eq_true_eq] at h2
    exact h2.1.2
theorem laidM_bits {l : List Ty} {size : Int} : ∀ {ms : List Mb} {e : Int}, laidM l size ms e = true → ∀ m ∈ ms, 0 ≤ m.bits
  | [], _, _, m, hm => by cases hm
  | x :: r, e, h, m, hm => by
    simp only [laidM, Bool.and_eq_true, Bool.not_eq_true', Bool.or_eq_false_iff, decide_eq_false_iff_not] at h
    rcases List.mem_cons.1 hm with rfl | hm
    · omega
    · exact laidM_bits h.2 m hm
theorem memberR_in {l : List Ty} {off n : Int} {ms : List Mb} (h : (memberR l off n ms).2 = true) : (memberR l off n ms).1 ∈ ms ∧ memberB l off n (memberR l off n ms).1 = true := by
  unfold memberR at *
  cases hf : ms.find? (memberB l off n) with
  | none => rw [hf] at h; cases h
  | some m =>
    simp only
    exact ⟨List.mem_of_find?_eq_some hf, List.find?_some hf⟩

set_option maxHeartbeats 8000000 in
set_option maxRecDepth 100000 in
theorem field_noarr (l : List Ty) (a : Option Addr) (c : Nat) (id off n : Int) (w : World) (h : Tys w (.slice a l.length c) l) (hr : Raw l) (hna : ∀ t ∈ l, t.kind ≠ 3) (hn : n = 1 ∨ n = 2 ∨ n = 4 ∨ n = 8) (h0 : (sizeR l id).2 = 0) (ho : 0 ≤ off) (hw : off ≤ (sizeR l id).1) (hw2 : n ≤ (sizeR l id).1 - off) :
    Calls Tryd.prog 12 #[.slice a l.length c, .int .i64 id, .int .i64 off, .int .i64 n] w fun e w' => e = .returned (.tuple #[nV (fieldR l id off n).1, .int .i64 (fieldR l id off n).2]) ∧ Kept (fun _ => False) w w' := by
  obtain ⟨hg, ⟨hF, hLL⟩, i1, i2, h6, hs1, hs2⟩ := sizeR_ok hr h0
  have hR : fieldR l id off n = fieldN l n (l.length + 1) id off [] := by
    unfold fieldR
    rw [if_neg (by simpa using h0), if_neg (by omega)]
  have h256 := hg.fit.len
  have hcl := hg.closed
  have hac := hg.acyc
  have hoff : off ≤ 65537 := by omega
  generalize hwh : (sizeR l id).1 = wh at *
  have hSZ := Lib.hid (sizeR_any l a c id w h hr)
  rw [h0, hwh] at hSZ
  clear hwh
  obtain ⟨i, rfl⟩ : ∃ i : Nat, id = (i : Int) + 1 := ⟨(id - 1).toNat, by omega⟩
  obtain ⟨RR, hRR⟩ : ∃ R, R = fieldR l ((i : Int) + 1) off n := ⟨_, rfl⟩
  rw [← hRR] at hR
  have HR := Lib.hid hRR
  have hR := hR.symm
  clear hRR h0
  have HN := Lib.hid hn
  rcases hn with rfl | rfl | rfl | rfl
  · as_aux_lemma =>
    go_enter Tryd.func12, Tryd.ntmps12
    go_wp2_with fail
    refine hSZ.out.mono ?_
    rintro e w1 ⟨rfl, hk1⟩
    go_wp2_with fail
    go_loopw [1, 2, 12] (fun iv ov sv wr => ∃ (k : Nat) (off' : Int) (way : List UInt8) (f : Nat), iv = .int .i64 ((k : Int) + 1) ∧ ov = .int .i64 off' ∧ sv = nV way ∧ k < l.length ∧ 0 ≤ off' ∧ off' ≤ 65537 ∧ kindAt l (throughL l ((k : Int) + 1)) ≠ 6 ∧ rk l ((k : Int) + 1) < f ∧
      fieldN l (1 : Int) f ((k : Int) + 1) off' way = RR ∧ Kept (fun _ => False) w wr ∧ way.length ≤ 33 * (l.length - rk l ((k : Int) + 1))) (fun iv _ _ _ => rk l (intOf iv))
    case atStart => exact ⟨i, off, [], l.length + 1, rfl, rfl, rfl, by omega, ho, hoff, h6, Nat.lt_succ_of_le (rk_le l _), hR, hk1, Nat.zero_le _⟩
    case round =>
      clear hk1 h6 ho hoff hw hw2 hR
      obtain ⟨k, off', way, f, rfl, rfl, rfl, hk, ho, hoff, h6, hrk, hfe, hK, hway⟩ := hrel
      obtain ⟨f, rfl⟩ : ∃ f', f = f' + 1 := ⟨f - 1, by omega⟩
      obtain ⟨k2, t, hq1, hq2, hta, hk5⟩ := through_ix hg hk
      have hkl := (List.getElem?_eq_some_iff.1 hq2).1
      have htm := List.mem_of_getElem? hq2
      have hka : kindAt l (throughL l ((k : Int) + 1)) = t.kind := by unfold kindAt; rw [hta]; rfl
      rw [hka] at h6
      have h3 := hna t htm
      have hkk := (hg.sized hta).2.2
      have hT := h.kept hK
      obtain ⟨g, o, mv, rfl, hgl, hm, c0, c1, c2, c3, c4, c5, c6⟩ := hT.at_ hq2
      obtain ⟨ma, mc, rfl⟩ := hm.any
      have hkA : Kept (fun _ => False) wr (wr.alloc (.cells (tyVals t (.slice ma t.mem.length mc)) 38)) := (Kept.refl _ wr).alloc _
      have hBt := Blk.new wr 38 (tyVals t (.slice ma t.mem.length mc))
      simp only [fieldN, hta] at hfe
      have hTH := Lib.hid (through_any l (some ⟨g, o, none⟩) c k wr hT hg hk)
      rw [hq1] at hTH
      by_cases h12 : t.kind = 1 ∨ t.kind = 2
      · rw [if_pos h12] at hfe
        have hSI := fun W hW => size_ih l (some ⟨g, o, none⟩) c hg (rk l ((k : Int) + 1) + 1) k W hW hk (Nat.lt_succ_self _)
        have hsr := hg.size_range (rk l ((k : Int) + 1) + 1) ((k : Int) + 1) (Nat.lt_succ_self _) (by omega) (by omega)
        have hSI := Lib.hid hSI
        have HFE := Lib.hid hfe
        clear hfe
        by_cases hgt : sizeL l ((k : Int) + 1) < off' + (1 : Int)
        · have hF2 : RR = ([], 41) := by rw [← HFE.out, if_pos hgt]
          have e12 : (t.kind == 1) = true ∨ ((t.kind == 1) = false ∧ (t.kind == 2) = true) := by
            rcases h12 with e | e
            · exact .inl (by simpa using e)
            · exact .inr ⟨by simp; omega, by simpa using e⟩
          clear h12 h3 h6 hkk
          rcases e12 with e1 | ⟨e1, e2⟩
          all_goals
            go_wp2_with fail
            refine hTH.out.mono ?_
            rintro e w2 ⟨rfl, rfl⟩
            go_wp2_with fail
            refine (hSI.out _ (hT.kept hkA)).mono ?_
            rintro e w3 ⟨rfl, hk3⟩
            go_wp2_with fail
            go_ret2
            exact ⟨by rw [← HR.out, hF2]; rfl, (hK.trans hkA (fun _ _ h => h)).trans hk3 (fun _ _ h => h)⟩
        · have hF2 : RR = (way, 0) := by rw [← HFE.out, if_neg hgt]
          have e12 : (t.kind == 1) = true ∨ ((t.kind == 1) = false ∧ (t.kind == 2) = true) := by
            rcases h12 with e | e
            · exact .inl (by simpa using e)
            · exact .inr ⟨by simp; omega, by simpa using e⟩
          clear h12 h3 h6 hkk
          rcases e12 with e1 | ⟨e1, e2⟩
          all_goals
            go_wp2_with fail
            refine hTH.out.mono ?_
            rintro e w2 ⟨rfl, rfl⟩
            go_wp2_with fail
            refine (hSI.out _ (hT.kept hkA)).mono ?_
            rintro e w3 ⟨rfl, hk3⟩
            go_wp2_with fail
            go_ret2
            exact ⟨by rw [← HR.out, hF2]; rfl, (hK.trans hkA (fun _ _ h => h)).trans hk3 (fun _ _ h => h)⟩
      · rw [if_neg h12] at hfe
        have h4 : t.kind = 4 := by omega
        have hME := Lib.hid (fun W hW hmW => member_any l (some ⟨g, o, none⟩) c k2 t ma mc off' (1 : Int) W hW hg hq2 h4 hmW ⟨ho, by omega⟩ ⟨by omega, by omega⟩)
        have hsuc : ∀ m ∈ t.mem, m.type ∈ succL l (throughL l ((k : Int) + 1)) := fun m hm => by
          unfold succL
          rw [hta]
          unfold holdsL
          simp only
          rw [if_neg (by omega), if_pos h4]
          exact List.mem_map.2 ⟨m, hm, rfl⟩
        have e1 : (t.kind == 1) = false := by simp; omega
        have e2 : (t.kind == 2) = false := by simp; omega
        have e3 : (t.kind == 3) = false := by simp; omega
        have hF4 : firstF (pF l) l.length = none := hF
        clear h12 h3 h6 hkk
        have H4 := Lib.hid h4
        clear h4
        cases hmr : (memberR l off' (1 : Int) t.mem).2 with
        | false =>
          rw [if_neg (by rw [hmr]; simp)] at hfe
          have HFE := Lib.hid hfe
          clear hfe
          go_wp2_with fail
          refine hTH.out.mono ?_
          rintro e w2 ⟨rfl, rfl⟩
          go_wp2_with fail
          refine (hME.out _ (hT.kept hkA) (hm.kept hkA)).mono ?_
          rintro e w3 ⟨rfl, hk3⟩
          rw [hmr]
          go_wp2_with fail
          go_ret2
          exact ⟨by rw [← HR.out, ← HFE.out]; rfl, ((hK.trans hkA (fun _ _ h => h)).trans hk3 (fun _ _ h => h)).alloc _⟩
        | true =>
          rw [if_pos hmr] at hfe
          obtain ⟨hmi, hmB⟩ := memberR_in hmr
          generalize hmm : (memberR l off' (1 : Int) t.mem).1 = m at *
          have hs := hsuc m hmi
          have hmt := hcl _ _ hs
          have hrk2 := rk_lt hcl hac hs
          have hrt : rk l (throughL l ((k : Int) + 1)) ≤ rk l ((k : Int) + 1) := through_rk hcl hac _ _
          unfold memberB at hmB
          simp only [Bool.and_eq_true, decide_eq_true_eq] at hmB
          obtain ⟨k', hk'⟩ : ∃ k' : Nat, m.type = (k' : Int) + 1 := ⟨(m.type - 1).toNat, by omega⟩
          have hfu : functionsB l t = false := by
            have := firstF_none hF (i := k2) hkl
            unfold pF at this
            rw [hq2] at this
            simpa using this
          have h6n : kindAt l (throughL l ((k' : Int) + 1)) ≠ 6 := by
            unfold functionsB at hfu
            rw [if_neg (by have := H4.out; omega), List.any_eq_false] at hfu
            have := hfu m.type (by
              have h5 := H4.out
              unfold holdsL
              rw [if_neg (by omega), if_pos h5]
              exact List.mem_map.2 ⟨m, hmi, rfl⟩)
            rw [← hk']
            simpa using this
          have hbl : 0 ≤ m.bits.tdiv 8 := by
            have h1 := firstF_none hLL (i := k2) hkl
            unfold pL at h1
            rw [hq2] at h1
            simp only [Option.map_some, Option.getD_some, Bool.not_eq_false'] at h1
            unfold laidB at h1
            rw [if_neg (by have := H4.out; omega), if_pos H4.out] at h1
            rw [Int.tdiv_eq_ediv_of_nonneg (laidM_bits h1 m hmi)]
            have := laidM_bits h1 m hmi
            omega
          have hnl := alone_names (hg.alone k2 t hq2) (by have := H4.out; omega) m hmi
          have hrn := rk_le l ((k : Int) + 1)
          have hway2 : way.length ≤ 10000 := by omega
          have hcat1 : (ByteArray.mk #[46]) ++ (ByteArray.mk m.name.toArray) = ByteArray.mk (46 :: m.name).toArray := by
            apply ByteArray.ext
            simp [ByteArray.data_append]
          have hcat2 : (ByteArray.mk way.toArray) ++ (ByteArray.mk (46 :: m.name).toArray) = ByteArray.mk (way ++ 46 :: m.name).toArray := by
            apply ByteArray.ext
            simp [ByteArray.data_append]
          have HFE := Lib.hid hfe
          have HK' := Lib.hid hk'
          have HMR := Lib.hid hmr
          have HMM := Lib.hid hmm
          clear hfe hk' hmr hmm
          go_wp2_with fail
          refine hTH.out.mono ?_
          rintro e w2 ⟨rfl, rfl⟩
          go_wp2_with fail
          refine (hME.out _ (hT.kept hkA) (hm.kept hkA)).mono ?_
          rintro e w3 ⟨rfl, hk3⟩
          rw [HMR.out]
          go_wp2_with fail
          refine wp_region_mix0 [.w, .l, .w, .w, .l, .w, .w, .w, .w] (by kernel_rfl) (by kernel_rfl) ?_
          repeat (first
            | (refine mix_w1 ?_; go_big_quiet_step (fail); refine wpQuiet_nil ?_)
            | (refine mix_l1 rfl ?_; go_big_quiet_step (fail); refine wpQuiet_nil ?_))
          refine mix_done ?_
          go_wp2_with fail
          go_roundw
          case rel =>
            have hr1 := HK'.out
            exact ⟨k', off' - m.bits.tdiv 8, way ++ 46 :: m.name, f, by rw [← hr1], rfl, rfl, by omega, by omega, by omega, h6n, by rw [← hr1]; omega, by rw [← hr1]; exact HFE.out, (((hK.trans hkA (fun _ _ h => h)).trans hk3 (fun _ _ h => h)).alloc _).drew, by rw [← hr1]; simp; omega⟩
          case measure =>
            simp only [intOf]
            omega
  · as_aux_lemma =>
    go_enter Tryd.func12, Tryd.ntmps12
    go_wp2_with fail
    refine hSZ.out.mono ?_
    rintro e w1 ⟨rfl, hk1⟩
    go_wp2_with fail
    go_loopw [1, 2, 12] (fun iv ov sv wr => ∃ (k : Nat) (off' : Int) (way : List UInt8) (f : Nat), iv = .int .i64 ((k : Int) + 1) ∧ ov = .int .i64 off' ∧ sv = nV way ∧ k < l.length ∧ 0 ≤ off' ∧ off' ≤ 65537 ∧ kindAt l (throughL l ((k : Int) + 1)) ≠ 6 ∧ rk l ((k : Int) + 1) < f ∧
      fieldN l (2 : Int) f ((k : Int) + 1) off' way = RR ∧ Kept (fun _ => False) w wr ∧ way.length ≤ 33 * (l.length - rk l ((k : Int) + 1))) (fun iv _ _ _ => rk l (intOf iv))
    case atStart => exact ⟨i, off, [], l.length + 1, rfl, rfl, rfl, by omega, ho, hoff, h6, Nat.lt_succ_of_le (rk_le l _), hR, hk1, Nat.zero_le _⟩
    case round =>
      clear hk1 h6 ho hoff hw hw2 hR
      obtain ⟨k, off', way, f, rfl, rfl, rfl, hk, ho, hoff, h6, hrk, hfe, hK, hway⟩ := hrel
      obtain ⟨f, rfl⟩ : ∃ f', f = f' + 1 := ⟨f - 1, by omega⟩
      obtain ⟨k2, t, hq1, hq2, hta, hk5⟩ := through_ix hg hk
      have hkl := (List.getElem?_eq_some_iff.1 hq2).1
      have htm := List.mem_of_getElem? hq2
      have hka : kindAt l (throughL l ((k : Int) + 1)) = t.kind := by unfold kindAt; rw [hta]; rfl
      rw [hka] at h6
      have h3 := hna t htm
      have hkk := (hg.sized hta).2.2
      have hT := h.kept hK
      obtain ⟨g, o, mv, rfl, hgl, hm, c0, c1, c2, c3, c4, c5, c6⟩ := hT.at_ hq2
      obtain ⟨ma, mc, rfl⟩ := hm.any
      have hkA : Kept (fun _ => False) wr (wr.alloc (.cells (tyVals t (.slice ma t.mem.length mc)) 38)) := (Kept.refl _ wr).alloc _
      have hBt := Blk.new wr 38 (tyVals t (.slice ma t.mem.length mc))
      simp only [fieldN, hta] at hfe
      have hTH := Lib.hid (through_any l (some ⟨g, o, none⟩) c k wr hT hg hk)
      rw [hq1] at hTH
      by_cases h12 : t.kind = 1 ∨ t.kind = 2
      · rw [if_pos h12] at hfe
        have hSI := fun W hW => size_ih l (some ⟨g, o, none⟩) c hg (rk l ((k : Int) + 1) + 1) k W hW hk (Nat.lt_succ_self _)
        have hsr := hg.size_range (rk l ((k : Int) + 1) + 1) ((k : Int) + 1) (Nat.lt_succ_self _) (by omega) (by omega)
        have hSI := Lib.hid hSI
        have HFE := Lib.hid hfe
        clear hfe
        by_cases hgt : sizeL l ((k : Int) + 1) < off' + (2 : Int)
        · have hF2 : RR = ([], 41) := by rw [← HFE.out, if_pos hgt]
          have e12 : (t.kind == 1) = true ∨ ((t.kind == 1) = false ∧ (t.kind == 2) = true) := by
            rcases h12 with e | e
            · exact .inl (by simpa using e)
            · exact .inr ⟨by simp; omega, by simpa using e⟩
          clear h12 h3 h6 hkk
          rcases e12 with e1 | ⟨e1, e2⟩
          all_goals
            go_wp2_with fail
            refine hTH.out.mono ?_
            rintro e w2 ⟨rfl, rfl⟩
            go_wp2_with fail
            refine (hSI.out _ (hT.kept hkA)).mono ?_
            rintro e w3 ⟨rfl, hk3⟩
            go_wp2_with fail
            go_ret2
            exact ⟨by rw [← HR.out, hF2]; rfl, (hK.trans hkA (fun _ _ h => h)).trans hk3 (fun _ _ h => h)⟩
        · have hF2 : RR = (way, 0) := by rw [← HFE.out, if_neg hgt]
          have e12 : (t.kind == 1) = true ∨ ((t.kind == 1) = false ∧ (t.kind == 2) = true) := by
            rcases h12 with e | e
            · exact .inl (by simpa using e)
            · exact .inr ⟨by simp; omega, by simpa using e⟩
          clear h12 h3 h6 hkk
          rcases e12 with e1 | ⟨e1, e2⟩
          all_goals
            go_wp2_with fail
            refine hTH.out.mono ?_
            rintro e w2 ⟨rfl, rfl⟩
            go_wp2_with fail
            refine (hSI.out _ (hT.kept hkA)).mono ?_
            rintro e w3 ⟨rfl, hk3⟩
            go_wp2_with fail
            go_ret2
            exact ⟨by rw [← HR.out, hF2]; rfl, (hK.trans hkA (fun _ _ h => h)).trans hk3 (fun _ _ h => h)⟩
      · rw [if_neg h12] at hfe
        have h4 : t.kind = 4 := by omega
        have hME := Lib.hid (fun W hW hmW => member_any l (some ⟨g, o, none⟩) c k2 t ma mc off' (2 : Int) W hW hg hq2 h4 hmW ⟨ho, by omega⟩ ⟨by omega, by omega⟩)
        have hsuc : ∀ m ∈ t.mem, m.type ∈ succL l (throughL l ((k : Int) + 1)) := fun m hm => by
          unfold succL
          rw [hta]
          unfold holdsL
          simp only
          rw [if_neg (by omega), if_pos h4]
          exact List.mem_map.2 ⟨m, hm, rfl⟩
        have e1 : (t.kind == 1) = false := by simp; omega
        have e2 : (t.kind == 2) = false := by simp; omega
        have e3 : (t.kind == 3) = false := by simp; omega
        have hF4 : firstF (pF l) l.length = none := hF
        clear h12 h3 h6 hkk
        have H4 := Lib.hid h4
        clear h4
        cases hmr : (memberR l off' (2 : Int) t.mem).2 with
        | false =>
          rw [if_neg (by rw [hmr]; simp)] at hfe
          have HFE := Lib.hid hfe
          clear hfe
          go_wp2_with fail
          refine hTH.out.mono ?_
          rintro e w2 ⟨rfl, rfl⟩
          go_wp2_with fail
          refine (hME.out _ (hT.kept hkA) (hm.kept hkA)).mono ?_
          rintro e w3 ⟨rfl, hk3⟩
          rw [hmr]
          go_wp2_with fail
          go_ret2
          exact ⟨by rw [← HR.out, ← HFE.out]; rfl, ((hK.trans hkA (fun _ _ h => h)).trans hk3 (fun _ _ h => h)).alloc _⟩
        | true =>
          rw [if_pos hmr] at hfe
          obtain ⟨hmi, hmB⟩ := memberR_in hmr
          generalize hmm : (memberR l off' (2 : Int) t.mem).1 = m at *
          have hs := hsuc m hmi
          have hmt := hcl _ _ hs
          have hrk2 := rk_lt hcl hac hs
          have hrt : rk l (throughL l ((k : Int) + 1)) ≤ rk l ((k : Int) + 1) := through_rk hcl hac _ _
          unfold memberB at hmB
          simp only [Bool.and_eq_true, decide_eq_true_eq] at hmB
          obtain ⟨k', hk'⟩ : ∃ k' : Nat, m.type = (k' : Int) + 1 := ⟨(m.type - 1).toNat, by omega⟩
          have hfu : functionsB l t = false := by
            have := firstF_none hF (i := k2) hkl
            unfold pF at this
            rw [hq2] at this
            simpa using this
          have h6n : kindAt l (throughL l ((k' : Int) + 1)) ≠ 6 := by
            unfold functionsB at hfu
            rw [if_neg (by have := H4.out; omega), List.any_eq_false] at hfu
            have := hfu m.type (by
              have h5 := H4.out
              unfold holdsL
              rw [if_neg (by omega), if_pos h5]
              exact List.mem_map.2 ⟨m, hmi, rfl⟩)
            rw [← hk']
            simpa using this
          have hbl : 0 ≤ m.bits.tdiv 8 := by
            have h1 := firstF_none hLL (i := k2) hkl
            unfold pL at h1
            rw [hq2] at h1
            simp only [Option.map_some, Option.getD_some, Bool.not_eq_false'] at h1
            unfold laidB at h1
            rw [if_neg (by have := H4.out; omega), if_pos H4.out] at h1
            rw [Int.tdiv_eq_ediv_of_nonneg (laidM_bits h1 m hmi)]
            have := laidM_bits h1 m hmi
            omega
          have hnl := alone_names (hg.alone k2 t hq2) (by have := H4.out; omega) m hmi
          have hrn := rk_le l ((k : Int) + 1)
          have hway2 : way.length ≤ 10000 := by omega
          have hcat1 : (ByteArray.mk #[46]) ++ (ByteArray.mk m.name.toArray) = ByteArray.mk (46 :: m.name).toArray := by
            apply ByteArray.ext
            simp [ByteArray.data_append]
          have hcat2 : (ByteArray.mk way.toArray) ++ (ByteArray.mk (46 :: m.name).toArray) = ByteArray.mk (way ++ 46 :: m.name).toArray := by
            apply ByteArray.ext
            simp [ByteArray.data_append]
          have HFE := Lib.hid hfe
          have HK' := Lib.hid hk'
          have HMR := Lib.hid hmr
          have HMM := Lib.hid hmm
          clear hfe hk' hmr hmm
          go_wp2_with fail
          refine hTH.out.mono ?_
          rintro e w2 ⟨rfl, rfl⟩
          go_wp2_with fail
          refine (hME.out _ (hT.kept hkA) (hm.kept hkA)).mono ?_
          rintro e w3 ⟨rfl, hk3⟩
          rw [HMR.out]
          go_wp2_with fail
          refine wp_region_mix0 [.w, .l, .w, .w, .l, .w, .w, .w, .w] (by kernel_rfl) (by kernel_rfl) ?_
          repeat (first
            | (refine mix_w1 ?_; go_big_quiet_step (fail); refine wpQuiet_nil ?_)
            | (refine mix_l1 rfl ?_; go_big_quiet_step (fail); refine wpQuiet_nil ?_))
          refine mix_done ?_
          go_wp2_with fail
          go_roundw
          case rel =>
            have hr1 := HK'.out
            exact ⟨k', off' - m.bits.tdiv 8, way ++ 46 :: m.name, f, by rw [← hr1], rfl, rfl, by omega, by omega, by omega, h6n, by rw [← hr1]; omega, by rw [← hr1]; exact HFE.out, (((hK.trans hkA (fun _ _ h => h)).trans hk3 (fun _ _ h => h)).alloc _).drew, by rw [← hr1]; simp; omega⟩
          case measure =>
            simp only [intOf]
            omega
  · as_aux_lemma =>
    go_enter Tryd.func12, Tryd.ntmps12
    go_wp2_with fail
    refine hSZ.out.mono ?_
    rintro e w1 ⟨rfl, hk1⟩
    go_wp2_with fail
    go_loopw [1, 2, 12] (fun iv ov sv wr => ∃ (k : Nat) (off' : Int) (way : List UInt8) (f : Nat), iv = .int .i64 ((k : Int) + 1) ∧ ov = .int .i64 off' ∧ sv = nV way ∧ k < l.length ∧ 0 ≤ off' ∧ off' ≤ 65537 ∧ kindAt l (throughL l ((k : Int) + 1)) ≠ 6 ∧ rk l ((k : Int) + 1) < f ∧
      fieldN l (4 : Int) f ((k : Int) + 1) off' way = RR ∧ Kept (fun _ => False) w wr ∧ way.length ≤ 33 * (l.length - rk l ((k : Int) + 1))) (fun iv _ _ _ => rk l (intOf iv))
    case atStart => exact ⟨i, off, [], l.length + 1, rfl, rfl, rfl, by omega, ho, hoff, h6, Nat.lt_succ_of_le (rk_le l _), hR, hk1, Nat.zero_le _⟩
    case round =>
      clear hk1 h6 ho hoff hw hw2 hR
      obtain ⟨k, off', way, f, rfl, rfl, rfl, hk, ho, hoff, h6, hrk, hfe, hK, hway⟩ := hrel
      obtain ⟨f, rfl⟩ : ∃ f', f = f' + 1 := ⟨f - 1, by omega⟩
      obtain ⟨k2, t, hq1, hq2, hta, hk5⟩ := through_ix hg hk
      have hkl := (List.getElem?_eq_some_iff.1 hq2).1
      have htm := List.mem_of_getElem? hq2
      have hka : kindAt l (throughL l ((k : Int) + 1)) = t.kind := by unfold kindAt; rw [hta]; rfl
      rw [hka] at h6
      have h3 := hna t htm
      have hkk := (hg.sized hta).2.2
      have hT := h.kept hK
      obtain ⟨g, o, mv, rfl, hgl, hm, c0, c1, c2, c3, c4, c5, c6⟩ := hT.at_ hq2
      obtain ⟨ma, mc, rfl⟩ := hm.any
      have hkA : Kept (fun _ => False) wr (wr.alloc (.cells (tyVals t (.slice ma t.mem.length mc)) 38)) := (Kept.refl _ wr).alloc _
      have hBt := Blk.new wr 38 (tyVals t (.slice ma t.mem.length mc))
      simp only [fieldN, hta] at hfe
      have hTH := Lib.hid (through_any l (some ⟨g, o, none⟩) c k wr hT hg hk)
      rw [hq1] at hTH
      by_cases h12 : t.kind = 1 ∨ t.kind = 2
      · rw [if_pos h12] at hfe
        have hSI := fun W hW => size_ih l (some ⟨g, o, none⟩) c hg (rk l ((k : Int) + 1) + 1) k W hW hk (Nat.lt_succ_self _)
        have hsr := hg.size_range (rk l ((k : Int) + 1) + 1) ((k : Int) + 1) (Nat.lt_succ_self _) (by omega) (by omega)
        have hSI := Lib.hid hSI
        have HFE := Lib.hid hfe
        clear hfe
        by_cases hgt : sizeL l ((k : Int) + 1) < off' + (4 : Int)
        · have hF2 : RR = ([], 41) := by rw [← HFE.out, if_pos hgt]
          have e12 : (t.kind == 1) = true ∨ ((t.kind == 1) = false ∧ (t.kind == 2) = true) := by
            rcases h12 with e | e
            · exact .inl (by simpa using e)
            · exact .inr ⟨by simp; omega, by simpa using e⟩
          clear h12 h3 h6 hkk
          rcases e12 with e1 | ⟨e1, e2⟩
          all_goals
            go_wp2_with fail
            refine hTH.out.mono ?_
            rintro e w2 ⟨rfl, rfl⟩
            go_wp2_with fail
            refine (hSI.out _ (hT.kept hkA)).mono ?_
            rintro e w3 ⟨rfl, hk3⟩
            go_wp2_with fail
            go_ret2
            exact ⟨by rw [← HR.out, hF2]; rfl, (hK.trans hkA (fun _ _ h => h)).trans hk3 (fun _ _ h => h)⟩
        · have hF2 : RR = (way, 0) := by rw [← HFE.out, if_neg hgt]
          have e12 : (t.kind == 1) = true ∨ ((t.kind == 1) = false ∧ (t.kind == 2) = true) := by
            rcases h12 with e | e
            · exact .inl (by simpa using e)
            · exact .inr ⟨by simp; omega, by simpa using e⟩
          clear h12 h3 h6 hkk
          rcases e12 with e1 | ⟨e1, e2⟩
          all_goals
            go_wp2_with fail
            refine hTH.out.mono ?_
            rintro e w2 ⟨rfl, rfl⟩
            go_wp2_with fail
            refine (hSI.out _ (hT.kept hkA)).mono ?_
            rintro e w3 ⟨rfl, hk3⟩
            go_wp2_with fail
            go_ret2
            exact ⟨by rw [← HR.out, hF2]; rfl, (hK.trans hkA (fun _ _ h => h)).trans hk3 (fun _ _ h => h)⟩
      · rw [if_neg h12] at hfe
        have h4 : t.kind = 4 := by omega
        have hME := Lib.hid (fun W hW hmW => member_any l (some ⟨g, o, none⟩) c k2 t ma mc off' (4 : Int) W hW hg hq2 h4 hmW ⟨ho, by omega⟩ ⟨by omega, by omega⟩)
        have hsuc : ∀ m ∈ t.mem, m.type ∈ succL l (throughL l ((k : Int) + 1)) := fun m hm => by
          unfold succL
          rw [hta]
          unfold holdsL
          simp only
          rw [if_neg (by omega), if_pos h4]
          exact List.mem_map.2 ⟨m, hm, rfl⟩
        have e1 : (t.kind == 1) = false := by simp; omega
        have e2 : (t.kind == 2) = false := by simp; omega
        have e3 : (t.kind == 3) = false := by simp; omega
        have hF4 : firstF (pF l) l.length = none := hF
        clear h12 h3 h6 hkk
        have H4 := Lib.hid h4
        clear h4
        cases hmr : (memberR l off' (4 : Int) t.mem).2 with
        | false =>
          rw [if_neg (by rw [hmr]; simp)] at hfe
          have HFE := Lib.hid hfe
          clear hfe
          go_wp2_with fail
          refine hTH.out.mono ?_
          rintro e w2 ⟨rfl, rfl⟩
          go_wp2_with fail
          refine (hME.out _ (hT.kept hkA) (hm.kept hkA)).mono ?_
          rintro e w3 ⟨rfl, hk3⟩
          rw [hmr]
          go_wp2_with fail
          go_ret2
          exact ⟨by rw [← HR.out, ← HFE.out]; rfl, ((hK.trans hkA (fun _ _ h => h)).trans hk3 (fun _ _ h => h)).alloc _⟩
        | true =>
          rw [if_pos hmr] at hfe
          obtain ⟨hmi, hmB⟩ := memberR_in hmr
          generalize hmm : (memberR l off' (4 : Int) t.mem).1 = m at *
          have hs := hsuc m hmi
          have hmt := hcl _ _ hs
          have hrk2 := rk_lt hcl hac hs
          have hrt : rk l (throughL l ((k : Int) + 1)) ≤ rk l ((k : Int) + 1) := through_rk hcl hac _ _
          unfold memberB at hmB
          simp only [Bool.and_eq_true, decide_eq_true_eq] at hmB
          obtain ⟨k', hk'⟩ : ∃ k' : Nat, m.type = (k' : Int) + 1 := ⟨(m.type - 1).toNat, by omega⟩
          have hfu : functionsB l t = false := by
            have := firstF_none hF (i := k2) hkl
            unfold pF at this
            rw [hq2] at this
            simpa using this
          have h6n : kindAt l (throughL l ((k' : Int) + 1)) ≠ 6 := by
            unfold functionsB at hfu
            rw [if_neg (by have := H4.out; omega), List.any_eq_false] at hfu
            have := hfu m.type (by
              have h5 := H4.out
              unfold holdsL
              rw [if_neg (by omega), if_pos h5]
              exact List.mem_map.2 ⟨m, hmi, rfl⟩)
            rw [← hk']
            simpa using this
          have hbl : 0 ≤ m.bits.tdiv 8 := by
            have h1 := firstF_none hLL (i := k2) hkl
            unfold pL at h1
            rw [hq2] at h1
            simp only [Option.map_some, Option.getD_some, Bool.not_eq_false'] at h1
            unfold laidB at h1
            rw [if_neg (by have := H4.out; omega), if_pos H4.out] at h1
            rw [Int.tdiv_eq_ediv_of_nonneg (laidM_bits h1 m hmi)]
            have := laidM_bits h1 m hmi
            omega
          have hnl := alone_names (hg.alone k2 t hq2) (by have := H4.out; omega) m hmi
          have hrn := rk_le l ((k : Int) + 1)
          have hway2 : way.length ≤ 10000 := by omega
          have hcat1 : (ByteArray.mk #[46]) ++ (ByteArray.mk m.name.toArray) = ByteArray.mk (46 :: m.name).toArray := by
            apply ByteArray.ext
            simp [ByteArray.data_append]
          have hcat2 : (ByteArray.mk way.toArray) ++ (ByteArray.mk (46 :: m.name).toArray) = ByteArray.mk (way ++ 46 :: m.name).toArray := by
            apply ByteArray.ext
            simp [ByteArray.data_append]
          have HFE := Lib.hid hfe
          have HK' := Lib.hid hk'
          have HMR := Lib.hid hmr
          have HMM := Lib.hid hmm
          clear hfe hk' hmr hmm
          go_wp2_with fail
          refine hTH.out.mono ?_
          rintro e w2 ⟨rfl, rfl⟩
          go_wp2_with fail
          refine (hME.out _ (hT.kept hkA) (hm.kept hkA)).mono ?_
          rintro e w3 ⟨rfl, hk3⟩
          rw [HMR.out]
          go_wp2_with fail
          refine wp_region_mix0 [.w, .l, .w, .w, .l, .w, .w, .w, .w] (by kernel_rfl) (by kernel_rfl) ?_
          repeat (first
            | (refine mix_w1 ?_; go_big_quiet_step (fail); refine wpQuiet_nil ?_)
            | (refine mix_l1 rfl ?_; go_big_quiet_step (fail); refine wpQuiet_nil ?_))
          refine mix_done ?_
          go_wp2_with fail
          go_roundw
          case rel =>
            have hr1 := HK'.out
            exact ⟨k', off' - m.bits.tdiv 8, way ++ 46 :: m.name, f, by rw [← hr1], rfl, rfl, by omega, by omega, by omega, h6n, by rw [← hr1]; omega, by rw [← hr1]; exact HFE.out, (((hK.trans hkA (fun _ _ h => h)).trans hk3 (fun _ _ h => h)).alloc _).drew, by rw [← hr1]; simp; omega⟩
          case measure =>
            simp only [intOf]
            omega
  · as_aux_lemma =>
    go_enter Tryd.func12, Tryd.ntmps12
    go_wp2_with fail
    refine hSZ.out.mono ?_
    rintro e w1 ⟨rfl, hk1⟩
    go_wp2_with fail
    go_loopw [1, 2, 12] (fun iv ov sv wr => ∃ (k : Nat) (off' : Int) (way : List UInt8) (f : Nat), iv = .int .i64 ((k : Int) + 1) ∧ ov = .int .i64 off' ∧ sv = nV way ∧ k < l.length ∧ 0 ≤ off' ∧ off' ≤ 65537 ∧ kindAt l (throughL l ((k : Int) + 1)) ≠ 6 ∧ rk l ((k : Int) + 1) < f ∧
      fieldN l (8 : Int) f ((k : Int) + 1) off' way = RR ∧ Kept (fun _ => False) w wr ∧ way.length ≤ 33 * (l.length - rk l ((k : Int) + 1))) (fun iv _ _ _ => rk l (intOf iv))
    case atStart => exact ⟨i, off, [], l.length + 1, rfl, rfl, rfl, by omega, ho, hoff, h6, Nat.lt_succ_of_le (rk_le l _), hR, hk1, Nat.zero_le _⟩
    case round =>
      clear hk1 h6 ho hoff hw hw2 hR
      obtain ⟨k, off', way, f, rfl, rfl, rfl, hk, ho, hoff, h6, hrk, hfe, hK, hway⟩ := hrel
      obtain ⟨f, rfl⟩ : ∃ f', f = f' + 1 := ⟨f - 1, by omega⟩
      obtain ⟨k2, t, hq1, hq2, hta, hk5⟩ := through_ix hg hk
      have hkl := (List.getElem?_eq_some_iff.1 hq2).1
      have htm := List.mem_of_getElem? hq2
      have hka : kindAt l (throughL l ((k : Int) + 1)) = t.kind := by unfold kindAt; rw [hta]; rfl
      rw [hka] at h6
      have h3 := hna t htm
      have hkk := (hg.sized hta).2.2
      have hT := h.kept hK
      obtain ⟨g, o, mv, rfl, hgl, hm, c0, c1, c2, c3, c4, c5, c6⟩ := hT.at_ hq2
      obtain ⟨ma, mc, rfl⟩ := hm.any
      have hkA : Kept (fun _ => False) wr (wr.alloc (.cells (tyVals t (.slice ma t.mem.length mc)) 38)) := (Kept.refl _ wr).alloc _
      have hBt := Blk.new wr 38 (tyVals t (.slice ma t.mem.length mc))
      simp only [fieldN, hta] at hfe
      have hTH := Lib.hid (through_any l (some ⟨g, o, none⟩) c k wr hT hg hk)
      rw [hq1] at hTH
      by_cases h12 : t.kind = 1 ∨ t.kind = 2
      · rw [if_pos h12] at hfe
        have hSI := fun W hW => size_ih l (some ⟨g, o, none⟩) c hg (rk l ((k : Int) + 1) + 1) k W hW hk (Nat.lt_succ_self _)
        have hsr := hg.size_range (rk l ((k : Int) + 1) + 1) ((k : Int) + 1) (Nat.lt_succ_self _) (by omega) (by omega)
        have hSI := Lib.hid hSI
        have HFE := Lib.hid hfe
        clear hfe
        by_cases hgt : sizeL l ((k : Int) + 1) < off' + (8 : Int)
        · have hF2 : RR = ([], 41) := by rw [← HFE.out, if_pos hgt]
          have e12 : (t.kind == 1) = true ∨ ((t.kind == 1) = false ∧ (t.kind == 2) = true) := by
            rcases h12 with e | e
            · exact .inl (by simpa using e)
            · exact .inr ⟨by simp; omega, by simpa using e⟩
          clear h12 h3 h6 hkk
          rcases e12 with e1 | ⟨e1, e2⟩
          all_goals
            go_wp2_with fail
            refine hTH.out.mono ?_
            rintro e w2 ⟨rfl, rfl⟩
            go_wp2_with fail
            refine (hSI.out _ (hT.kept hkA)).mono ?_
            rintro e w3 ⟨rfl, hk3⟩
            go_wp2_with fail
            go_ret2
            exact ⟨by rw [← HR.out, hF2]; rfl, (hK.trans hkA (fun _ _ h => h)).trans hk3 (fun _ _ h => h)⟩
        · have hF2 : RR = (way, 0) := by rw [← HFE.out, if_neg hgt]
          have e12 : (t.kind == 1) = true ∨ ((t.kind == 1) = false ∧ (t.kind == 2) = true) := by
            rcases h12 with e | e
            · exact .inl (by simpa using e)
            · exact .inr ⟨by simp; omega, by simpa using e⟩
          clear h12 h3 h6 hkk
          rcases e12 with e1 | ⟨e1, e2⟩
          all_goals
            go_wp2_with fail
            refine hTH.out.mono ?_
            rintro e w2 ⟨rfl, rfl⟩
            go_wp2_with fail
            refine (hSI.out _ (hT.kept hkA)).mono ?_
            rintro e w3 ⟨rfl, hk3⟩
            go_wp2_with fail
            go_ret2
            exact ⟨by rw [← HR.out, hF2]; rfl, (hK.trans hkA (fun _ _ h => h)).trans hk3 (fun _ _ h => h)⟩
      · rw [if_neg h12] at hfe
        have h4 : t.kind = 4 := by omega
        have hME := Lib.hid (fun W hW hmW => member_any l (some ⟨g, o, none⟩) c k2 t ma mc off' (8 : Int) W hW hg hq2 h4 hmW ⟨ho, by omega⟩ ⟨by omega, by omega⟩)
        have hsuc : ∀ m ∈ t.mem, m.type ∈ succL l (throughL l ((k : Int) + 1)) := fun m hm => by
          unfold succL
          rw [hta]
          unfold holdsL
          simp only
          rw [if_neg (by omega), if_pos h4]
          exact List.mem_map.2 ⟨m, hm, rfl⟩
        have e1 : (t.kind == 1) = false := by simp; omega
        have e2 : (t.kind == 2) = false := by simp; omega
        have e3 : (t.kind == 3) = false := by simp; omega
        have hF4 : firstF (pF l) l.length = none := hF
        clear h12 h3 h6 hkk
        have H4 := Lib.hid h4
        clear h4
        cases hmr : (memberR l off' (8 : Int) t.mem).2 with
        | false =>
          rw [if_neg (by rw [hmr]; simp)] at hfe
          have HFE := Lib.hid hfe
          clear hfe
          go_wp2_with fail
          refine hTH.out.mono ?_
          rintro e w2 ⟨rfl, rfl⟩
          go_wp2_with fail
          refine (hME.out _ (hT.kept hkA) (hm.kept hkA)).mono ?_
          rintro e w3 ⟨rfl, hk3⟩
          rw [hmr]
          go_wp2_with fail
          go_ret2
          exact ⟨by rw [← HR.out, ← HFE.out]; rfl, ((hK.trans hkA (fun _ _ h => h)).trans hk3 (fun _ _ h => h)).alloc _⟩
        | true =>
          rw [if_pos hmr] at hfe
          obtain ⟨hmi, hmB⟩ := memberR_in hmr
          generalize hmm : (memberR l off' (8 : Int) t.mem).1 = m at *
          have hs := hsuc m hmi
          have hmt := hcl _ _ hs
          have hrk2 := rk_lt hcl hac hs
          have hrt : rk l (throughL l ((k : Int) + 1)) ≤ rk l ((k : Int) + 1) := through_rk hcl hac _ _
          unfold memberB at hmB
          simp only [Bool.and_eq_true, decide_eq_true_eq] at hmB
          obtain ⟨k', hk'⟩ : ∃ k' : Nat, m.type = (k' : Int) + 1 := ⟨(m.type - 1).toNat, by omega⟩
          have hfu : functionsB l t = false := by
            have := firstF_none hF (i := k2) hkl
            unfold pF at this
            rw [hq2] at this
            simpa using this
          have h6n : kindAt l (throughL l ((k' : Int) + 1)) ≠ 6 := by
            unfold functionsB at hfu
            rw [if_neg (by have := H4.out; omega), List.any_eq_false] at hfu
            have := hfu m.type (by
              have h5 := H4.out
              unfold holdsL
              rw [if_neg (by omega), if_pos h5]
              exact List.mem_map.2 ⟨m, hmi, rfl⟩)
            rw [← hk']
            simpa using this
          have hbl : 0 ≤ m.bits.tdiv 8 := by
            have h1 := firstF_none hLL (i := k2) hkl
            unfold pL at h1
            rw [hq2] at h1
            simp only [Option.map_some, Option.getD_some, Bool.not_eq_false'] at h1
            unfold laidB at h1
            rw [if_neg (by have := H4.out; omega), if_pos H4.out] at h1
            rw [Int.tdiv_eq_ediv_of_nonneg (laidM_bits h1 m hmi)]
            have := laidM_bits h1 m hmi
            omega
          have hnl := alone_names (hg.alone k2 t hq2) (by have := H4.out; omega) m hmi
          have hrn := rk_le l ((k : Int) + 1)
          have hway2 : way.length ≤ 10000 := by omega
          have hcat1 : (ByteArray.mk #[46]) ++ (ByteArray.mk m.name.toArray) = ByteArray.mk (46 :: m.name).toArray := by
            apply ByteArray.ext
            simp [ByteArray.data_append]
          have hcat2 : (ByteArray.mk way.toArray) ++ (ByteArray.mk (46 :: m.name).toArray) = ByteArray.mk (way ++ 46 :: m.name).toArray := by
            apply ByteArray.ext
            simp [ByteArray.data_append]
          have HFE := Lib.hid hfe
          have HK' := Lib.hid hk'
          have HMR := Lib.hid hmr
          have HMM := Lib.hid hmm
          clear hfe hk' hmr hmm
          go_wp2_with fail
          refine hTH.out.mono ?_
          rintro e w2 ⟨rfl, rfl⟩
          go_wp2_with fail
          refine (hME.out _ (hT.kept hkA) (hm.kept hkA)).mono ?_
          rintro e w3 ⟨rfl, hk3⟩
          rw [HMR.out]
          go_wp2_with fail
          refine wp_region_mix0 [.w, .l, .w, .w, .l, .w, .w, .w, .w] (by kernel_rfl) (by kernel_rfl) ?_
          repeat (first
            | (refine mix_w1 ?_; go_big_quiet_step (fail); refine wpQuiet_nil ?_)
            | (refine mix_l1 rfl ?_; go_big_quiet_step (fail); refine wpQuiet_nil ?_))
          refine mix_done ?_
          go_wp2_with fail
          go_roundw
          case rel =>
            have hr1 := HK'.out
            exact ⟨k', off' - m.bits.tdiv 8, way ++ 46 :: m.name, f, by rw [← hr1], rfl, rfl, by omega, by omega, by omega, h6n, by rw [← hr1]; omega, by rw [← hr1]; exact HFE.out, (((hK.trans hkA (fun _ _ h => h)).trans hk3 (fun _ _ h => h)).alloc _).drew, by rw [← hr1]; simp; omega⟩
          case measure =>
            simp only [intOf]
            omega

end Go.Proofs.YtmgdjiplpfeoiaaDoor
