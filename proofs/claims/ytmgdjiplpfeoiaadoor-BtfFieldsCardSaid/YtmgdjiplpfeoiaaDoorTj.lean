import Derived.Test.YtmgdjiplpfeoiaaDoorTi
import Derived.Test.YtmgdjiplpfeoiaaDoorIa
set_option linter.unusedSimpArgs false
set_option linter.unusedVariables false
namespace Go.Proofs.YtmgdjiplpfeoiaaDoor
open Go.RowKit

/-- how one gets to bytes of a type -/
noncomputable def fieldF (l : List Ty) (n : Int) : Nat → Int → Int → List UInt8 → List UInt8 × Int
  | 0, _, _, _ => ([], 41)
  | f + 1, id, off, way => match tyAt l (throughL l id) with
    | none => ([], 41)
    | some t => if t.kind = 1 ∨ t.kind = 2 then (if sizeL l id < off + n then ([], 41) else (way, 0)) else
      if t.kind = 3 then
        (if sizeL l t.to = 0 then ([], 41) else if sizeL l t.to < off % sizeL l t.to + n then ([], 41) else fieldF l n f t.to (off % sizeL l t.to) (way ++ 91 :: (Lib.itoa (off / sizeL l t.to) ++ [93])))
      else if (memberR l off n t.mem).2 = true then fieldF l n f (memberR l off n t.mem).1.type (off - (memberR l off n t.mem).1.bits.tdiv 8) (way ++ 46 :: (memberR l off n t.mem).1.name) else ([], 41)
noncomputable def fieldA (l : List Ty) (id off n : Int) : List UInt8 × Int :=
  if (sizeR l id).2 ≠ 0 then ([], (sizeR l id).2) else if off < 0 ∨ ¬ (n = 1 ∨ n = 2 ∨ n = 4 ∨ n = 8) ∨ (sizeR l id).1 < off ∨ (sizeR l id).1 - off < n then ([], 43) else fieldF l n (l.length + 1) id off []

set_option maxHeartbeats 8000000 in
set_option maxRecDepth 100000 in
theorem field_in (l : List Ty) (a : Option Addr) (c : Nat) (id off n : Int) (w : World) (h : Tys w (.slice a l.length c) l) (hr : Raw l) (htb : PowTab w) (hn : n = 1 ∨ n = 2 ∨ n = 4 ∨ n = 8) (h0 : (sizeR l id).2 = 0) (ho : 0 ≤ off) (hw : off ≤ (sizeR l id).1) (hw2 : n ≤ (sizeR l id).1 - off) :
    Calls Tryd.prog 12 #[.slice a l.length c, .int .i64 id, .int .i64 off, .int .i64 n] w fun e w' => e = .returned (.tuple #[nV (fieldA l id off n).1, .int .i64 (fieldA l id off n).2]) ∧ Kept (fun _ => False) w w' := by
  obtain ⟨hg, ⟨hF, hLL⟩, i1, i2, h6, hs1, hs2⟩ := sizeR_ok hr h0
  have hR : fieldA l id off n = fieldF l n (l.length + 1) id off [] := by
    unfold fieldA
    rw [if_neg (by simpa using h0), if_neg (by omega)]
  have h256 := hg.fit.len
  have hcl := hg.closed
  have hac := hg.acyc
  have hoff : off ≤ 65537 := by omega
  generalize hwh : (sizeR l id).1 = wh at *
  have hSZ := Lib.hid (sizeR_any l a c id w h hr)
  rw [h0, hwh] at hSZ
  clear hwh
  obtain ⟨i, rfl⟩ : ∃ i : Nat, id = (i : Int) + 1 := ⟨(id - 1).toNat, by omega⟩
  obtain ⟨RR, hRR⟩ : ∃ R, R = fieldA l ((i : Int) + 1) off n := ⟨_, rfl⟩
  rw [← hRR] at hR
  have HR := Lib.hid hRR
  have hR := hR.symm
  clear hRR h0
  have HN := Lib.hid hn
  rcases hn with rfl | rfl | rfl | rfl
  · as_aux_lemma =>
    go_enter Tryd.func12, Tryd.ntmps12
    go_wp2_with fail
    refine hSZ.out.mono ?_
    rintro e w1 ⟨rfl, hk1⟩
    go_wp2_with fail
    go_loopw [1, 2, 12] (fun iv ov sv wr => ∃ (k : Nat) (off' : Int) (way : List UInt8) (f : Nat), iv = .int .i64 ((k : Int) + 1) ∧ ov = .int .i64 off' ∧ sv = nV way ∧ k < l.length ∧ 0 ≤ off' ∧ off' ≤ 65537 ∧ kindAt l (throughL l ((k : Int) + 1)) ≠ 6 ∧ rk l ((k : Int) + 1) < f ∧
      fieldF l (1 : Int) f ((k : Int) + 1) off' way = RR ∧ Kept (fun _ => False) w wr ∧ way.length ≤ 33 * (l.length - rk l ((k : Int) + 1))) (fun iv _ _ _ => rk l (intOf iv))
    case atStart => exact ⟨i, off, [], l.length + 1, rfl, rfl, rfl, by omega, ho, hoff, h6, Nat.lt_succ_of_le (rk_le l _), hR, hk1, Nat.zero_le _⟩
    case round =>
      clear hk1 h6 ho hoff hw hw2 hR
      obtain ⟨k, off', way, f, rfl, rfl, rfl, hk, ho, hoff, h6, hrk, hfe, hK, hway⟩ := hrel
      obtain ⟨f, rfl⟩ : ∃ f', f = f' + 1 := ⟨f - 1, by omega⟩
      obtain ⟨k2, t, hq1, hq2, hta, hk5⟩ := through_ix hg hk
      have hkl := (List.getElem?_eq_some_iff.1 hq2).1
      have htm := List.mem_of_getElem? hq2
      have hka : kindAt l (throughL l ((k : Int) + 1)) = t.kind := by unfold kindAt; rw [hta]; rfl
      rw [hka] at h6
      have hkk := (hg.sized hta).2.2
      have hT := h.kept hK
      obtain ⟨g, o, mv, rfl, hgl, hm, c0, c1, c2, c3, c4, c5, c6⟩ := hT.at_ hq2
      obtain ⟨ma, mc, rfl⟩ := hm.any
      have hkA : Kept (fun _ => False) wr (wr.alloc (.cells (tyVals t (.slice ma t.mem.length mc)) 38)) := (Kept.refl _ wr).alloc _
      have hBt := Blk.new wr 38 (tyVals t (.slice ma t.mem.length mc))
      simp only [fieldF, hta] at hfe
      have hTH := Lib.hid (through_any l (some ⟨g, o, none⟩) c k wr hT hg hk)
      rw [hq1] at hTH
      rcases Classical.em (t.kind = 3) with h3 | h3
      · have h12 : ¬ (t.kind = 1 ∨ t.kind = 2) := by omega
        rw [if_neg h12, if_pos h3] at hfe
        have hs := array_succ hta h3
        have hmt := hcl _ _ hs
        have hrk2 := rk_lt hcl hac hs
        have hrt : rk l (throughL l ((k : Int) + 1)) ≤ rk l ((k : Int) + 1) := through_rk hcl hac _ _
        obtain ⟨k', hk'⟩ : ∃ k' : Nat, t.to = (k' : Int) + 1 := ⟨(t.to - 1).toNat, by omega⟩
        have hfu : functionsB l t = false := by
          have := firstF_none hF (i := k2) hkl
          unfold pF at this
          rw [hq2] at this
          simpa using this
        have h6n : kindAt l (throughL l ((k' : Int) + 1)) ≠ 6 := by
          unfold functionsB at hfu
          rw [if_neg (by omega), List.any_eq_false] at hfu
          have := hfu t.to (by
            unfold holdsL
            rw [if_pos (.inr h3)]
            exact List.mem_singleton.2 rfl)
          rw [← hk']
          simpa using this
        have hsr := hg.size_range (rk l t.to + 1) t.to (Nat.lt_succ_self _) (by omega) (by omega)
        have hSI := Lib.hid (show ∀ W, Tys W (.slice (some ⟨g, o, none⟩) l.length c) l → Calls Tryd.prog 24 #[.slice (some ⟨g, o, none⟩) l.length c, .int .i64 t.to] W (fun e W' => e = .returned (.int .i64 (sizeL l t.to)) ∧ Kept (fun _ => False) W W') from fun W hW => by
          rw [hk']
          exact size_ih l (some ⟨g, o, none⟩) c hg (rk l ((k' : Int) + 1) + 1) k' W hW (by omega) (Nat.lt_succ_self _))
        have e1 : (t.kind == 1) = false := by simp; omega
        have e2 : (t.kind == 2) = false := by simp; omega
        have e3 : (t.kind == 3) = true := by simpa using h3
        have hrn := rk_le l ((k : Int) + 1)
        have hway2 : way.length ≤ 10000 := by omega
        have hrel : rk l t.to < rk l ((k : Int) + 1) := by omega
        have hrf : rk l t.to < f := by omega
        have hway3 : way.length + 33 ≤ 33 * (l.length - rk l t.to) := by omega
        have htb4 := htb.kept hK
        clear h12 h3 h6 hkk hfu hrk2 hrt hs hway hrk hka
        have HK' := Lib.hid hk'
        have H6N := Lib.hid h6n
        have hkl' : k' < l.length := by omega
        have hrk' : rk l ((k' : Int) + 1) = rk l t.to := by rw [HK'.out]
        have HRK' := Lib.hid hrk'
        clear hk' hrk' h6n hmt
        have hfe2 : (if sizeL l t.to = 0 then (([], 41) : List UInt8 × Int) else if sizeL l t.to < off' % sizeL l t.to + (1 : Int) then ([], 41) else fieldF l (1 : Int) f t.to (off' % sizeL l t.to) (way ++ 91 :: (Lib.itoa (off' / sizeL l t.to) ++ [93]))) = RR := hfe
        clear hfe
        generalize sizeL l t.to = sz at *
        by_cases hz : sz = 0
        · rw [if_pos hz] at hfe2
          have HFE := Lib.hid hfe2
          clear hfe2
          subst hz
          go_wp2_with fail
          refine hTH.out.mono ?_
          rintro e w2 ⟨rfl, rfl⟩
          go_wp2_with fail
          refine (hSI.out _ (hT.kept hkA)).mono ?_
          rintro e w3 ⟨rfl, hk3⟩
          go_wp2_with fail
          go_ret2
          exact ⟨by rw [← HR.out, ← HFE.out]; rfl, (hK.trans hkA (fun _ _ h => h)).trans hk3 (fun _ _ h => h)⟩
        · rw [if_neg hz] at hfe2
          have z1 : (sz == 0) = false := by simpa using hz
          have z2 : 1 ≤ sz := by omega
          have q0 : 0 ≤ off' / sz := Int.ediv_nonneg ho (by omega)
          have q1 : off' / sz ≤ 65537 := Int.le_trans (Int.ediv_le_self _ ho) hoff
          have r0 : 0 ≤ off' % sz := Int.emod_nonneg _ hz
          have r1 : off' % sz ≤ 65537 := by have := Int.emod_lt_of_pos off' (show 0 < sz by omega); omega
          have hIT := Lib.hid (fun W (hW : PowTab W) => itoa_any (off' / sz) q0 (by omega) W hW)
          have hil := itoa_len (off' / sz) q0 (by omega)
          generalize Lib.itoa (off' / sz) = it at *
          have hcat1 : (ByteArray.mk #[91]) ++ (ByteArray.mk it.toArray) = ByteArray.mk (91 :: it).toArray := by
            apply ByteArray.ext
            simp [ByteArray.data_append]
          have hcat2 : (ByteArray.mk (91 :: it).toArray) ++ (ByteArray.mk #[93]) = ByteArray.mk (91 :: (it ++ [93])).toArray := by
            apply ByteArray.ext
            simp [ByteArray.data_append]
          have hcat3 : (ByteArray.mk way.toArray) ++ (ByteArray.mk (91 :: (it ++ [93])).toArray) = ByteArray.mk (way ++ 91 :: (it ++ [93])).toArray := by
            apply ByteArray.ext
            simp [ByteArray.data_append]
          have hBt4 : wr.heap.size < (wr.alloc (.cells (tyVals t (.slice ma t.mem.length mc)) 38)).heap.size := by simp
          have HZ := Lib.hid hz
          clear hz
          by_cases hgt : sz < off' % sz + (1 : Int)
          · rw [if_pos hgt] at hfe2
            have HFE := Lib.hid hfe2
            clear hfe2
            go_wp2_with fail
            refine hTH.out.mono ?_
            rintro e w2 ⟨rfl, rfl⟩
            go_wp2_with fail
            refine (hSI.out _ (hT.kept hkA)).mono ?_
            rintro e w3 ⟨rfl, hk3⟩
            have hB3 := hk3.blk (fun h => h) hBt
            go_wp2_with fail
            refine (hIT.out _ ((htb4.kept hkA).kept hk3)).mono ?_
            rintro e w4 ⟨rfl, hk4⟩
            have hB4 := hk4.blk (fun h => h) hB3
            have c44 : w4.cell? ⟨wr.heap.size, 4, none⟩ = some (.int .i64 t.to) := hB4.cell 4
            go_wp2_with fail
            refine wp_region_mix0 [.w, .l, .w, .w, .w, .w, .w] (by kernel_rfl) (by kernel_rfl) ?_
            repeat (first
              | (refine mix_w1 ?_; go_big_quiet_step (fail); refine wpQuiet_nil ?_)
              | (refine mix_l1 rfl ?_; go_big_quiet_step (fail); refine wpQuiet_nil ?_))
            refine mix_done ?_
            go_wp2_with fail
            go_ret2
            exact ⟨by rw [← HR.out, ← HFE.out]; rfl, (((hK.trans hkA (fun _ _ h => h)).trans hk3 (fun _ _ h => h)).trans hk4 (fun _ _ h => h)).drew⟩
          · rw [if_neg hgt] at hfe2
            have HFE := Lib.hid hfe2
            clear hfe2
            go_wp2_with fail
            refine hTH.out.mono ?_
            rintro e w2 ⟨rfl, rfl⟩
            go_wp2_with fail
            refine (hSI.out _ (hT.kept hkA)).mono ?_
            rintro e w3 ⟨rfl, hk3⟩
            have hB3 := hk3.blk (fun h => h) hBt
            go_wp2_with fail
            refine (hIT.out _ ((htb4.kept hkA).kept hk3)).mono ?_
            rintro e w4 ⟨rfl, hk4⟩
            have hB4 := hk4.blk (fun h => h) hB3
            have c44 : w4.cell? ⟨wr.heap.size, 4, none⟩ = some (.int .i64 t.to) := hB4.cell 4
            go_wp2_with fail
            refine wp_region_mix0 [.w, .l, .w, .w, .w, .w, .w] (by kernel_rfl) (by kernel_rfl) ?_
            repeat (first
              | (refine mix_w1 ?_; go_big_quiet_step (fail); refine wpQuiet_nil ?_)
              | (refine mix_l1 rfl ?_; go_big_quiet_step (fail); refine wpQuiet_nil ?_))
            refine mix_done ?_
            go_wp2_with fail
            go_roundw
            case rel => exact ⟨k', off' % sz, way ++ 91 :: (it ++ [93]), f, by rw [HK'.out], rfl, rfl, hkl', r0, r1, H6N.out, by rw [HRK'.out]; exact hrf, by rw [← HK'.out]; exact HFE.out, (((hK.trans hkA (fun _ _ h => h)).trans hk3 (fun _ _ h => h)).trans hk4 (fun _ _ h => h)).drew, by rw [HRK'.out]; simp; omega⟩
            case measure =>
              simp only [intOf]
              exact hrel
      by_cases h12 : t.kind = 1 ∨ t.kind = 2
      · rw [if_pos h12] at hfe
        have hSI := fun W hW => size_ih l (some ⟨g, o, none⟩) c hg (rk l ((k : Int) + 1) + 1) k W hW hk (Nat.lt_succ_self _)
        have hsr := hg.size_range (rk l ((k : Int) + 1) + 1) ((k : Int) + 1) (Nat.lt_succ_self _) (by omega) (by omega)
        have hSI := Lib.hid hSI
        have HFE := Lib.hid hfe
        clear hfe
        by_cases hgt : sizeL l ((k : Int) + 1) < off' + (1 : Int)
        · have hF2 : RR = ([], 41) := by rw [← HFE.out, if_pos hgt]
          have e12 : (t.kind == 1) = true ∨ ((t.kind == 1) = false ∧ (t.kind == 2) = true) := by
            rcases h12 with e | e
            · exact .inl (by simpa using e)
            · exact .inr ⟨by simp; omega, by simpa using e⟩
          clear h12 h3 h6 hkk
          rcases e12 with e1 | ⟨e1, e2⟩
          all_goals
            go_wp2_with fail
            refine hTH.out.mono ?_
            rintro e w2 ⟨rfl, rfl⟩
            go_wp2_with fail
            refine (hSI.out _ (hT.kept hkA)).mono ?_
            rintro e w3 ⟨rfl, hk3⟩
            go_wp2_with fail
            go_ret2
            exact ⟨by rw [← HR.out, hF2]; rfl, (hK.trans hkA (fun _ _ h => h)).trans hk3 (fun _ _ h => h)⟩
        · have hF2 : RR = (way, 0) := by rw [← HFE.out, if_neg hgt]
          have e12 : (t.kind == 1) = true ∨ ((t.kind == 1) = false ∧ (t.kind == 2) = true) := by
            rcases h12 with e | e
            · exact .inl (by simpa using e)
            · exact .inr ⟨by simp; omega, by simpa using e⟩
          clear h12 h3 h6 hkk
          rcases e12 with e1 | ⟨e1, e2⟩
          all_goals
            go_wp2_with fail
            refine hTH.out.mono ?_
            rintro e w2 ⟨rfl, rfl⟩
            go_wp2_with fail
            refine (hSI.out _ (hT.kept hkA)).mono ?_
            rintro e w3 ⟨rfl, hk3⟩
            go_wp2_with fail
            go_ret2
            exact ⟨by rw [← HR.out, hF2]; rfl, (hK.trans hkA (fun _ _ h => h)).trans hk3 (fun _ _ h => h)⟩
      · rw [if_neg h12, if_neg h3] at hfe
        have h4 : t.kind = 4 := by omega
        have hME := Lib.hid (fun W hW hmW => member_any l (some ⟨g, o, none⟩) c k2 t ma mc off' (1 : Int) W hW hg hq2 h4 hmW ⟨ho, by omega⟩ ⟨by omega, by omega⟩)
        have hsuc : ∀ m ∈ t.mem, m.type ∈ succL l (throughL l ((k : Int) + 1)) := fun m hm => by
          unfold succL
          rw [hta]
          unfold holdsL
          simp only
          rw [if_neg (by omega), if_pos h4]
          exact List.mem_map.2 ⟨m, hm, rfl⟩
        have e1 : (t.kind == 1) = false := by simp; omega
        have e2 : (t.kind == 2) = false := by simp; omega
        have e3 : (t.kind == 3) = false := by simp; omega
        have hF4 : firstF (pF l) l.length = none := hF
        clear h12 h3 h6 hkk
        have H4 := Lib.hid h4
        clear h4
        cases hmr : (memberR l off' (1 : Int) t.mem).2 with
        | false =>
          rw [if_neg (by rw [hmr]; simp)] at hfe
          have HFE := Lib.hid hfe
          clear hfe
          go_wp2_with fail
          refine hTH.out.mono ?_
          rintro e w2 ⟨rfl, rfl⟩
          go_wp2_with fail
          refine (hME.out _ (hT.kept hkA) (hm.kept hkA)).mono ?_
          rintro e w3 ⟨rfl, hk3⟩
          rw [hmr]
          go_wp2_with fail
          go_ret2
          exact ⟨by rw [← HR.out, ← HFE.out]; rfl, ((hK.trans hkA (fun _ _ h => h)).trans hk3 (fun _ _ h => h)).alloc _⟩
        | true =>
          rw [if_pos hmr] at hfe
          obtain ⟨hmi, hmB⟩ := memberR_in hmr
          generalize hmm : (memberR l off' (1 : Int) t.mem).1 = m at *
          have hs := hsuc m hmi
          have hmt := hcl _ _ hs
          have hrk2 := rk_lt hcl hac hs
          have hrt : rk l (throughL l ((k : Int) + 1)) ≤ rk l ((k : Int) + 1) := through_rk hcl hac _ _
          unfold memberB at hmB
          simp only [Bool.and_eq_true, decide_eq_true_eq] at hmB
          obtain ⟨k', hk'⟩ : ∃ k' : Nat, m.type = (k' : Int) + 1 := ⟨(m.type - 1).toNat, by omega⟩
          have hfu : functionsB l t = false := by
            have := firstF_none hF (i := k2) hkl
            unfold pF at this
            rw [hq2] at this
            simpa using this
          have h6n : kindAt l (throughL l ((k' : Int) + 1)) ≠ 6 := by
            unfold functionsB at hfu
            rw [if_neg (by have := H4.out; omega), List.any_eq_false] at hfu
            have := hfu m.type (by
              have h5 := H4.out
              unfold holdsL
              rw [if_neg (by omega), if_pos h5]
              exact List.mem_map.2 ⟨m, hmi, rfl⟩)
            rw [← hk']
            simpa using this
          have hbl : 0 ≤ m.bits.tdiv 8 := by
            have h1 := firstF_none hLL (i := k2) hkl
            unfold pL at h1
            rw [hq2] at h1
            simp only [Option.map_some, Option.getD_some, Bool.not_eq_false'] at h1
            unfold laidB at h1
            rw [if_neg (by have := H4.out; omega), if_pos H4.out] at h1
            rw [Int.tdiv_eq_ediv_of_nonneg (laidM_bits h1 m hmi)]
            have := laidM_bits h1 m hmi
            omega
          have hnl := alone_names (hg.alone k2 t hq2) (by have := H4.out; omega) m hmi
          have hrn := rk_le l ((k : Int) + 1)
          have hway2 : way.length ≤ 10000 := by omega
          have hcat1 : (ByteArray.mk #[46]) ++ (ByteArray.mk m.name.toArray) = ByteArray.mk (46 :: m.name).toArray := by
            apply ByteArray.ext
            simp [ByteArray.data_append]
          have hcat2 : (ByteArray.mk way.toArray) ++ (ByteArray.mk (46 :: m.name).toArray) = ByteArray.mk (way ++ 46 :: m.name).toArray := by
            apply ByteArray.ext
            simp [ByteArray.data_append]
          have HFE := Lib.hid hfe
          have HK' := Lib.hid hk'
          have HMR := Lib.hid hmr
          have HMM := Lib.hid hmm
          clear hfe hk' hmr hmm
          go_wp2_with fail
          refine hTH.out.mono ?_
          rintro e w2 ⟨rfl, rfl⟩
          go_wp2_with fail
          refine (hME.out _ (hT.kept hkA) (hm.kept hkA)).mono ?_
          rintro e w3 ⟨rfl, hk3⟩
          rw [HMR.out]
          go_wp2_with fail
          refine wp_region_mix0 [.w, .l, .w, .w, .l, .w, .w, .w, .w] (by kernel_rfl) (by kernel_rfl) ?_
          repeat (first
            | (refine mix_w1 ?_; go_big_quiet_step (fail); refine wpQuiet_nil ?_)
            | (refine mix_l1 rfl ?_; go_big_quiet_step (fail); refine wpQuiet_nil ?_))
          refine mix_done ?_
          go_wp2_with fail
          go_roundw
          case rel =>
            have hr1 := HK'.out
            exact ⟨k', off' - m.bits.tdiv 8, way ++ 46 :: m.name, f, by rw [← hr1], rfl, rfl, by omega, by omega, by omega, h6n, by rw [← hr1]; omega, by rw [← hr1]; exact HFE.out, (((hK.trans hkA (fun _ _ h => h)).trans hk3 (fun _ _ h => h)).alloc _).drew, by rw [← hr1]; simp; omega⟩
          case measure =>
            simp only [intOf]
            omega
  · as_aux_lemma =>
    go_enter Tryd.func12, Tryd.ntmps12
    go_wp2_with fail
    refine hSZ.out.mono ?_
    rintro e w1 ⟨rfl, hk1⟩
    go_wp2_with fail
    go_loopw [1, 2, 12] (fun iv ov sv wr => ∃ (k : Nat) (off' : Int) (way : List UInt8) (f : Nat), iv = .int .i64 ((k : Int) + 1) ∧ ov = .int .i64 off' ∧ sv = nV way ∧ k < l.length ∧ 0 ≤ off' ∧ off' ≤ 65537 ∧ kindAt l (throughL l ((k : Int) + 1)) ≠ 6 ∧ rk l ((k : Int) + 1) < f ∧
      fieldF l (2 : Int) f ((k : Int) + 1) off' way = RR ∧ Kept (fun _ => False) w wr ∧ way.length ≤ 33 * (l.length - rk l ((k : Int) + 1))) (fun iv _ _ _ => rk l (intOf iv))
    case atStart => exact ⟨i, off, [], l.length + 1, rfl, rfl, rfl, by omega, ho, hoff, h6, Nat.lt_succ_of_le (rk_le l _), hR, hk1, Nat.zero_le _⟩
    case round =>
      clear hk1 h6 ho hoff hw hw2 hR
      obtain ⟨k, off', way, f, rfl, rfl, rfl, hk, ho, hoff, h6, hrk, hfe, hK, hway⟩ := hrel
      obtain ⟨f, rfl⟩ : ∃ f', f = f' + 1 := ⟨f - 1, by omega⟩
      obtain ⟨k2, t, hq1, hq2, hta, hk5⟩ := through_ix hg hk
      have hkl := (List.getElem?_eq_some_iff.1 hq2).1
      have htm := List.mem_of_getElem? hq2
      have hka : kindAt l (throughL l ((k : Int) + 1)) = t.kind := by unfold kindAt; rw [hta]; rfl
      rw [hka] at h6
      have hkk := (hg.sized hta).2.2
      have hT := h.kept hK
      obtain ⟨g, o, mv, rfl, hgl, hm, c0, c1, c2, c3, c4, c5, c6⟩ := hT.at_ hq2
      obtain ⟨ma, mc, rfl⟩ := hm.any
      have hkA : Kept (fun _ => False) wr (wr.alloc (.cells (tyVals t (.slice ma t.mem.length mc)) 38)) := (Kept.refl _ wr).alloc _
      have hBt := Blk.new wr 38 (tyVals t (.slice ma t.mem.length mc))
      simp only [fieldF, hta] at hfe
      have hTH := Lib.hid (through_any l (some ⟨g, o, none⟩) c k wr hT hg hk)
      rw [hq1] at hTH
      rcases Classical.em (t.kind = 3) with h3 | h3
      · have h12 : ¬ (t.kind = 1 ∨ t.kind = 2) := by omega
        rw [if_neg h12, if_pos h3] at hfe
        have hs := array_succ hta h3
        have hmt := hcl _ _ hs
        have hrk2 := rk_lt hcl hac hs
        have hrt : rk l (throughL l ((k : Int) + 1)) ≤ rk l ((k : Int) + 1) := through_rk hcl hac _ _
        obtain ⟨k', hk'⟩ : ∃ k' : Nat, t.to = (k' : Int) + 1 := ⟨(t.to - 1).toNat, by omega⟩
        have hfu : functionsB l t = false := by
          have := firstF_none hF (i := k2) hkl
          unfold pF at this
          rw [hq2] at this
          simpa using this
        have h6n : kindAt l (throughL l ((k' : Int) + 1)) ≠ 6 := by
          unfold functionsB at hfu
          rw [if_neg (by omega), List.any_eq_false] at hfu
          have := hfu t.to (by
            unfold holdsL
            rw [if_pos (.inr h3)]
            exact List.mem_singleton.2 rfl)
          rw [← hk']
          simpa using this
        have hsr := hg.size_range (rk l t.to + 1) t.to (Nat.lt_succ_self _) (by omega) (by omega)
        have hSI := Lib.hid (show ∀ W, Tys W (.slice (some ⟨g, o, none⟩) l.length c) l → Calls Tryd.prog 24 #[.slice (some ⟨g, o, none⟩) l.length c, .int .i64 t.to] W (fun e W' => e = .returned (.int .i64 (sizeL l t.to)) ∧ Kept (fun _ => False) W W') from fun W hW => by
          rw [hk']
          exact size_ih l (some ⟨g, o, none⟩) c hg (rk l ((k' : Int) + 1) + 1) k' W hW (by omega) (Nat.lt_succ_self _))
        have e1 : (t.kind == 1) = false := by simp; omega
        have e2 : (t.kind == 2) = false := by simp; omega
        have e3 : (t.kind == 3) = true := by simpa using h3
        have hrn := rk_le l ((k : Int) + 1)
        have hway2 : way.length ≤ 10000 := by omega
        have hrel : rk l t.to < rk l ((k : Int) + 1) := by omega
        have hrf : rk l t.to < f := by omega
        have hway3 : way.length + 33 ≤ 33 * (l.length - rk l t.to) := by omega
        have htb4 := htb.kept hK
        clear h12 h3 h6 hkk hfu hrk2 hrt hs hway hrk hka
        have HK' := Lib.hid hk'
        have H6N := Lib.hid h6n
        have hkl' : k' < l.length := by omega
        have hrk' : rk l ((k' : Int) + 1) = rk l t.to := by rw [HK'.out]
        have HRK' := Lib.hid hrk'
        clear hk' hrk' h6n hmt
        have hfe2 : (if sizeL l t.to = 0 then (([], 41) : List UInt8 × Int) else if sizeL l t.to < off' % sizeL l t.to + (2 : Int) then ([], 41) else fieldF l (2 : Int) f t.to (off' % sizeL l t.to) (way ++ 91 :: (Lib.itoa (off' / sizeL l t.to) ++ [93]))) = RR := hfe
        clear hfe
        generalize sizeL l t.to = sz at *
        by_cases hz : sz = 0
        · rw [if_pos hz] at hfe2
          have HFE := Lib.hid hfe2
          clear hfe2
          subst hz
          go_wp2_with fail
          refine hTH.out.mono ?_
          rintro e w2 ⟨rfl, rfl⟩
          go_wp2_with fail
          refine (hSI.out _ (hT.kept hkA)).mono ?_
          rintro e w3 ⟨rfl, hk3⟩
          go_wp2_with fail
          go_ret2
          exact ⟨by rw [← HR.out, ← HFE.out]; rfl, (hK.trans hkA (fun _ _ h => h)).trans hk3 (fun _ _ h => h)⟩
        · rw [if_neg hz] at hfe2
          have z1 : (sz == 0) = false := by simpa using hz
          have z2 : 1 ≤ sz := by omega
          have q0 : 0 ≤ off' / sz := Int.ediv_nonneg ho (by omega)
          have q1 : off' / sz ≤ 65537 := Int.le_trans (Int.ediv_le_self _ ho) hoff
          have r0 : 0 ≤ off' % sz := Int.emod_nonneg _ hz
          have r1 : off' % sz ≤ 65537 := by have := Int.emod_lt_of_pos off' (show 0 < sz by omega); omega
          have hIT := Lib.hid (fun W (hW : PowTab W) => itoa_any (off' / sz) q0 (by omega) W hW)
          have hil := itoa_len (off' / sz) q0 (by omega)
          generalize Lib.itoa (off' / sz) = it at *
          have hcat1 : (ByteArray.mk #[91]) ++ (ByteArray.mk it.toArray) = ByteArray.mk (91 :: it).toArray := by
            apply ByteArray.ext
            simp [ByteArray.data_append]
          have hcat2 : (ByteArray.mk (91 :: it).toArray) ++ (ByteArray.mk #[93]) = ByteArray.mk (91 :: (it ++ [93])).toArray := by
            apply ByteArray.ext
            simp [ByteArray.data_append]
          have hcat3 : (ByteArray.mk way.toArray) ++ (ByteArray.mk (91 :: (it ++ [93])).toArray) = ByteArray.mk (way ++ 91 :: (it ++ [93])).toArray := by
            apply ByteArray.ext
            simp [ByteArray.data_append]
          have hBt4 : wr.heap.size < (wr.alloc (.cells (tyVals t (.slice ma t.mem.length mc)) 38)).heap.size := by simp
          have HZ := Lib.hid hz
          clear hz
          by_cases hgt : sz < off' % sz + (2 : Int)
          · rw [if_pos hgt] at hfe2
            have HFE := Lib.hid hfe2
            clear hfe2
            go_wp2_with fail
            refine hTH.out.mono ?_
            rintro e w2 ⟨rfl, rfl⟩
            go_wp2_with fail
            refine (hSI.out _ (hT.kept hkA)).mono ?_
            rintro e w3 ⟨rfl, hk3⟩
            have hB3 := hk3.blk (fun h => h) hBt
            go_wp2_with fail
            refine (hIT.out _ ((htb4.kept hkA).kept hk3)).mono ?_
            rintro e w4 ⟨rfl, hk4⟩
            have hB4 := hk4.blk (fun h => h) hB3
            have c44 : w4.cell? ⟨wr.heap.size, 4, none⟩ = some (.int .i64 t.to) := hB4.cell 4
            go_wp2_with fail
            refine wp_region_mix0 [.w, .l, .w, .w, .w, .w, .w] (by kernel_rfl) (by kernel_rfl) ?_
            repeat (first
              | (refine mix_w1 ?_; go_big_quiet_step (fail); refine wpQuiet_nil ?_)
              | (refine mix_l1 rfl ?_; go_big_quiet_step (fail); refine wpQuiet_nil ?_))
            refine mix_done ?_
            go_wp2_with fail
            go_ret2
            exact ⟨by rw [← HR.out, ← HFE.out]; rfl, (((hK.trans hkA (fun _ _ h => h)).trans hk3 (fun _ _ h => h)).trans hk4 (fun _ _ h => h)).drew⟩
          · rw [if_neg hgt] at hfe2
            have HFE := Lib.hid hfe2
            clear hfe2
            go_wp2_with fail
            refine hTH.out.mono ?_
            rintro e w2 ⟨rfl, rfl⟩
            go_wp2_with fail
            refine (hSI.out _ (hT.kept hkA)).mono ?_
            rintro e w3 ⟨rfl, hk3⟩
            have hB3 := hk3.blk (fun h => h) hBt
            go_wp2_with fail
            refine (hIT.out _ ((htb4.kept hkA).kept hk3)).mono ?_
            rintro e w4 ⟨rfl, hk4⟩
            have hB4 := hk4.blk (fun h => h) hB3
            have c44 : w4.cell? ⟨wr.heap.size, 4, none⟩ = some (.int .i64 t.to) := hB4.cell 4
            go_wp2_with fail
            refine wp_region_mix0 [.w, .l, .w, .w, .w, .w, .w] (by kernel_rfl) (by kernel_rfl) ?_
            repeat (first
              | (refine mix_w1 ?_; go_big_quiet_step (fail); refine wpQuiet_nil ?_)
              | (refine mix_l1 rfl ?_; go_big_quiet_step (fail); refine wpQuiet_nil ?_))
            refine mix_done ?_
            go_wp2_with fail
            go_roundw
            case rel => exact ⟨k', off' % sz, way ++ 91 :: (it ++ [93]), f, by rw [HK'.out], rfl, rfl, hkl', r0, r1, H6N.out, by rw [HRK'.out]; exact hrf, by rw [← HK'.out]; exact HFE.out, (((hK.trans hkA (fun _ _ h => h)).trans hk3 (fun _ _ h => h)).trans hk4 (fun _ _ h => h)).drew, by rw [HRK'.out]; simp; omega⟩
            case measure =>
              simp only [intOf]
              exact hrel
      by_cases h12 : t.kind = 1 ∨ t.kind = 2
      · rw [if_pos h12] at hfe
        have hSI := fun W hW => size_ih l (some ⟨g, o, none⟩) c hg (rk l ((k : Int) + 1) + 1) k W hW hk (Nat.lt_succ_self _)
        have hsr := hg.size_range (rk l ((k : Int) + 1) + 1) ((k : Int) + 1) (Nat.lt_succ_self _) (by omega) (by omega)
        have hSI := Lib.hid hSI
        have HFE := Lib.hid hfe
        clear hfe
        by_cases hgt : sizeL l ((k : Int) + 1) < off' + (2 : Int)
        · have hF2 : RR = ([], 41) := by rw [← HFE.out, if_pos hgt]
          have e12 : (t.kind == 1) = true ∨ ((t.kind == 1) = false ∧ (t.kind == 2) = true) := by
            rcases h12 with e | e
            · exact .inl (by simpa using e)
            · exact .inr ⟨by simp; omega, by simpa using e⟩
          clear h12 h3 h6 hkk
          rcases e12 with e1 | ⟨e1, e2⟩
          all_goals
            go_wp2_with fail
            refine hTH.out.mono ?_
            rintro e w2 ⟨rfl, rfl⟩
            go_wp2_with fail
            refine (hSI.out _ (hT.kept hkA)).mono ?_
            rintro e w3 ⟨rfl, hk3⟩
            go_wp2_with fail
            go_ret2
            exact ⟨by rw [← HR.out, hF2]; rfl, (hK.trans hkA (fun _ _ h => h)).trans hk3 (fun _ _ h => h)⟩
        · have hF2 : RR = (way, 0) := by rw [← HFE.out, if_neg hgt]
          have e12 : (t.kind == 1) = true ∨ ((t.kind == 1) = false ∧ (t.kind == 2) = true) := by
            rcases h12 with e | e
            · exact .inl (by simpa using e)
            · exact .inr ⟨by simp; omega, by simpa using e⟩
          clear h12 h3 h6 hkk
          rcases e12 with e1 | ⟨e1, e2⟩
          all_goals
            go_wp2_with fail
            refine hTH.out.mono ?_
            rintro e w2 ⟨rfl, rfl⟩
            go_wp2_with fail
            refine (hSI.out _ (hT.kept hkA)).mono ?_
            rintro e w3 ⟨rfl, hk3⟩
            go_wp2_with fail
            go_ret2
            exact ⟨by rw [← HR.out, hF2]; rfl, (hK.trans hkA (fun _ _ h => h)).trans hk3 (fun _ _ h => h)⟩
      · rw [if_neg h12, if_neg h3] at hfe
        have h4 : t.kind = 4 := by omega
        have hME := Lib.hid (fun W hW hmW => member_any l (some ⟨g, o, none⟩) c k2 t ma mc off' (2 : Int) W hW hg hq2 h4 hmW ⟨ho, by omega⟩ ⟨by omega, by omega⟩)
        have hsuc : ∀ m ∈ t.mem, m.type ∈ succL l (throughL l ((k : Int) + 1)) := fun m hm => by
          unfold succL
          rw [hta]
          unfold holdsL
          simp only
          rw [if_neg (by omega), if_pos h4]
          exact List.mem_map.2 ⟨m, hm, rfl⟩
        have e1 : (t.kind == 1) = false := by simp; omega
        have e2 : (t.kind == 2) = false := by simp; omega
        have e3 : (t.kind == 3) = false := by simp; omega
        have hF4 : firstF (pF l) l.length = none := hF
        clear h12 h3 h6 hkk
        have H4 := Lib.hid h4
        clear h4
        cases hmr : (memberR l off' (2 : Int) t.mem).2 with
        | false =>
          rw [if_neg (by rw [hmr]; simp)] at hfe
          have HFE := Lib.hid hfe
          clear hfe
          go_wp2_with fail
          refine hTH.out.mono ?_
          rintro e w2 ⟨rfl, rfl⟩
          go_wp2_with fail
          refine (hME.out _ (hT.kept hkA) (hm.kept hkA)).mono ?_
          rintro e w3 ⟨rfl, hk3⟩
          rw [hmr]
          go_wp2_with fail
          go_ret2
          exact ⟨by rw [← HR.out, ← HFE.out]; rfl, ((hK.trans hkA (fun _ _ h => h)).trans hk3 (fun _ _ h => h)).alloc _⟩
        | true =>
          rw [if_pos hmr] at hfe
          obtain ⟨hmi, hmB⟩ := memberR_in hmr
          generalize hmm : (memberR l off' (2 : Int) t.mem).1 = m at *
          have hs := hsuc m hmi
          have hmt := hcl _ _ hs
          have hrk2 := rk_lt hcl hac hs
          have hrt : rk l (throughL l ((k : Int) + 1)) ≤ rk l ((k : Int) + 1) := through_rk hcl hac _ _
          unfold memberB at hmB
          simp only [Bool.and_eq_true, decide_eq_true_eq] at hmB
          obtain ⟨k', hk'⟩ : ∃ k' : Nat, m.type = (k' : Int) + 1 := ⟨(m.type - 1).toNat, by omega⟩
          have hfu : functionsB l t = false := by
            have := firstF_none hF (i := k2) hkl
            unfold pF at this
            rw [hq2] at this
            simpa using this
          have h6n : kindAt l (throughL l ((k' : Int) + 1)) ≠ 6 := by
            unfold functionsB at hfu
            rw [if_neg (by have := H4.out; omega), List.any_eq_false] at hfu
            have := hfu m.type (by
              have h5 := H4.out
              unfold holdsL
              rw [if_neg (by omega), if_pos h5]
              exact List.mem_map.2 ⟨m, hmi, rfl⟩)
            rw [← hk']
            simpa using this
          have hbl : 0 ≤ m.bits.tdiv 8 := by
            have h1 := firstF_none hLL (i := k2) hkl
            unfold pL at h1
            rw [hq2] at h1
            simp only [Option.map_some, Option.getD_some, Bool.not_eq_false'] at h1
            unfold laidB at h1
            rw [if_neg (by have := H4.out; omega), if_pos H4.out] at h1
            rw [Int.tdiv_eq_ediv_of_nonneg (laidM_bits h1 m hmi)]
            have := laidM_bits h1 m hmi
            omega
          have hnl := alone_names (hg.alone k2 t hq2) (by have := H4.out; omega) m hmi
          have hrn := rk_le l ((k : Int) + 1)
          have hway2 : way.length ≤ 10000 := by omega
          have hcat1 : (ByteArray.mk #[46]) ++ (ByteArray.mk m.name.toArray) = ByteArray.mk (46 :: m.name).toArray := by
            apply ByteArray.ext
            simp [ByteArray.data_append]
          have hcat2 : (ByteArray.mk way.toArray) ++ (ByteArray.mk (46 :: m.name).toArray) = ByteArray.mk (way ++ 46 :: m.name).toArray := by
            apply ByteArray.ext
            simp [ByteArray.data_append]
          have HFE := Lib.hid hfe
          have HK' := Lib.hid hk'
          have HMR := Lib.hid hmr
          have HMM := Lib.hid hmm
          clear hfe hk' hmr hmm
          go_wp2_with fail
          refine hTH.out.mono ?_
          rintro e w2 ⟨rfl, rfl⟩
          go_wp2_with fail
          refine (hME.out _ (hT.kept hkA) (hm.kept hkA)).mono ?_
          rintro e w3 ⟨rfl, hk3⟩
          rw [HMR.out]
          go_wp2_with fail
          refine wp_region_mix0 [.w, .l, .w, .w, .l, .w, .w, .w, .w] (by kernel_rfl) (by kernel_rfl) ?_
          repeat (first
            | (refine mix_w1 ?_; go_big_quiet_step (fail); refine wpQuiet_nil ?_)
            | (refine mix_l1 rfl ?_; go_big_quiet_step (fail); refine wpQuiet_nil ?_))
          refine mix_done ?_
          go_wp2_with fail
          go_roundw
          case rel =>
            have hr1 := HK'.out
            exact ⟨k', off' - m.bits.tdiv 8, way ++ 46 :: m.name, f, by rw [← hr1], rfl, rfl, by omega, by omega, by omega, h6n, by rw [← hr1]; omega, by rw [← hr1]; exact HFE.out, (((hK.trans hkA (fun _ _ h => h)).trans hk3 (fun _ _ h => h)).alloc _).drew, by rw [← hr1]; simp; omega⟩
          case measure =>
            simp only [intOf]
            omega
  · as_aux_lemma =>
    go_enter Tryd.func12, Tryd.ntmps12
    go_wp2_with fail
    refine hSZ.out.mono ?_
    rintro e w1 ⟨rfl, hk1⟩
    go_wp2_with fail
    go_loopw [1, 2, 12] (fun iv ov sv wr => ∃ (k : Nat) (off' : Int) (way : List UInt8) (f : Nat), iv = .int .i64 ((k : Int) + 1) ∧ ov = .int .i64 off' ∧ sv = nV way ∧ k < l.length ∧ 0 ≤ off' ∧ off' ≤ 65537 ∧ kindAt l (throughL l ((k : Int) + 1)) ≠ 6 ∧ rk l ((k : Int) + 1) < f ∧
      fieldF l (4 : Int) f ((k : Int) + 1) off' way = RR ∧ Kept (fun _ => False) w wr ∧ way.length ≤ 33 * (l.length - rk l ((k : Int) + 1))) (fun iv _ _ _ => rk l (intOf iv))
    case atStart => exact ⟨i, off, [], l.length + 1, rfl, rfl, rfl, by omega, ho, hoff, h6, Nat.lt_succ_of_le (rk_le l _), hR, hk1, Nat.zero_le _⟩
    case round =>
      clear hk1 h6 ho hoff hw hw2 hR
      obtain ⟨k, off', way, f, rfl, rfl, rfl, hk, ho, hoff, h6, hrk, hfe, hK, hway⟩ := hrel
      obtain ⟨f, rfl⟩ : ∃ f', f = f' + 1 := ⟨f - 1, by omega⟩
      obtain ⟨k2, t, hq1, hq2, hta, hk5⟩ := through_ix hg hk
      have hkl := (List.getElem?_eq_some_iff.1 hq2).1
      have htm := List.mem_of_getElem? hq2
      have hka : kindAt l (throughL l ((k : Int) + 1)) = t.kind := by unfold kindAt; rw [hta]; rfl
      rw [hka] at h6
      have hkk := (hg.sized hta).2.2
      have hT := h.kept hK
      obtain ⟨g, o, mv, rfl, hgl, hm, c0, c1, c2, c3, c4, c5, c6⟩ := hT.at_ hq2
      obtain ⟨ma, mc, rfl⟩ := hm.any
      have hkA : Kept (fun _ => False) wr (wr.alloc (.cells (tyVals t (.slice ma t.mem.length mc)) 38)) := (Kept.refl _ wr).alloc _
      have hBt := Blk.new wr 38 (tyVals t (.slice ma t.mem.length mc))
      simp only [fieldF, hta] at hfe
      have hTH := Lib.hid (through_any l (some ⟨g, o, none⟩) c k wr hT hg hk)
      rw [hq1] at hTH
      rcases Classical.em (t.kind = 3) with h3 | h3
      · have h12 : ¬ (t.kind = 1 ∨ t.kind = 2) := by omega
        rw [if_neg h12, if_pos h3] at hfe
        have hs := array_succ hta h3
        have hmt := hcl _ _ hs
        have hrk2 := rk_lt hcl hac hs
        have hrt : rk l (throughL l ((k : Int) + 1)) ≤ rk l ((k : Int) + 1) := through_rk hcl hac _ _
        obtain ⟨k', hk'⟩ : ∃ k' : Nat, t.to = (k' : Int) + 1 := ⟨(t.to - 1).toNat, by omega⟩
        have hfu : functionsB l t = false := by
          have := firstF_none hF (i := k2) hkl
          unfold pF at this
          rw [hq2] at this
          simpa using this
        have h6n : kindAt l (throughL l ((k' : Int) + 1)) ≠ 6 := by
          unfold functionsB at hfu
          rw [if_neg (by omega), List.any_eq_false] at hfu
          have := hfu t.to (by
            unfold holdsL
            rw [if_pos (.inr h3)]
            exact List.mem_singleton.2 rfl)
          rw [← hk']
          simpa using this
        have hsr := hg.size_range (rk l t.to + 1) t.to (Nat.lt_succ_self _) (by omega) (by omega)
        have hSI := Lib.hid (show ∀ W, Tys W (.slice (some ⟨g, o, none⟩) l.length c) l → Calls Tryd.prog 24 #[.slice (some ⟨g, o, none⟩) l.length c, .int .i64 t.to] W (fun e W' => e = .returned (.int .i64 (sizeL l t.to)) ∧ Kept (fun _ => False) W W') from fun W hW => by
          rw [hk']
          exact size_ih l (some ⟨g, o, none⟩) c hg (rk l ((k' : Int) + 1) + 1) k' W hW (by omega) (Nat.lt_succ_self _))
        have e1 : (t.kind == 1) = false := by simp; omega
        have e2 : (t.kind == 2) = false := by simp; omega
        have e3 : (t.kind == 3) = true := by simpa using h3
        have hrn := rk_le l ((k : Int) + 1)
        have hway2 : way.length ≤ 10000 := by omega
        have hrel : rk l t.to < rk l ((k : Int) + 1) := by omega
        have hrf : rk l t.to < f := by omega
        have hway3 : way.length + 33 ≤ 33 * (l.length - rk l t.to) := by omega
        have htb4 := htb.kept hK
        clear h12 h3 h6 hkk hfu hrk2 hrt hs hway hrk hka
        have HK' := Lib.hid hk'
        have H6N := Lib.hid h6n
        have hkl' : k' < l.length := by omega
        have hrk' : rk l ((k' : Int) + 1) = rk l t.to := by rw [HK'.out]
        have HRK' := Lib.hid hrk'
        clear hk' hrk' h6n hmt
        have hfe2 : (if sizeL l t.to = 0 then (([], 41) : List UInt8 × Int) else if sizeL l t.to < off' % sizeL l t.to + (4 : Int) then ([], 41) else fieldF l (4 : Int) f t.to (off' % sizeL l t.to) (way ++ 91 :: (Lib.itoa (off' / sizeL l t.to) ++ [93]))) = RR := hfe
        clear hfe
        generalize sizeL l t.to = sz at *
        by_cases hz : sz = 0
        · rw [if_pos hz] at hfe2
          have HFE := Lib.hid hfe2
          clear hfe2
          subst hz
          go_wp2_with fail
          refine hTH.out.mono ?_
          rintro e w2 ⟨rfl, rfl⟩
          go_wp2_with fail
          refine (hSI.out _ (hT.kept hkA)).mono ?_
          rintro e w3 ⟨rfl, hk3⟩
          go_wp2_with fail
          go_ret2
          exact ⟨by rw [← HR.out, ← HFE.out]; rfl, (hK.trans hkA (fun _ _ h => h)).trans hk3 (fun _ _ h => h)⟩
        · rw [if_neg hz] at hfe2
          have z1 : (sz == 0) = false := by simpa using hz
          have z2 : 1 ≤ sz := by omega
          have q0 : 0 ≤ off' / sz := Int.ediv_nonneg ho (by omega)
          have q1 : off' / sz ≤ 65537 := Int.le_trans (Int.ediv_le_self _ ho) hoff
          have r0 : 0 ≤ off' % sz := Int.emod_nonneg _ hz
          have r1 : off' % sz ≤ 65537 := by have := Int.emod_lt_of_pos off' (show 0 < sz by omega); omega
          have hIT := Lib.hid (fun W (hW : PowTab W) => itoa_any (off' / sz) q0 (by omega) W hW)
          have hil := itoa_len (off' / sz) q0 (by omega)
          generalize Lib.itoa (off' / sz) = it at *
          have hcat1 : (ByteArray.mk #[91]) ++ (ByteArray.mk it.toArray) = ByteArray.mk (91 :: it).toArray := by
            apply ByteArray.ext
            simp [ByteArray.data_append]
          have hcat2 : (ByteArray.mk (91 :: it).toArray) ++ (ByteArray.mk #[93]) = ByteArray.mk (91 :: (it ++ [93])).toArray := by
            apply ByteArray.ext
            simp [ByteArray.data_append]
          have hcat3 : (ByteArray.mk way.toArray) ++ (ByteArray.mk (91 :: (it ++ [93])).toArray) = ByteArray.mk (way ++ 91 :: (it ++ [93])).toArray := by
            apply ByteArray.ext
            simp [ByteArray.data_append]
          have hBt4 : wr.heap.size < (wr.alloc (.cells (tyVals t (.slice ma t.mem.length mc)) 38)).heap.size := by simp
          have HZ := Lib.hid hz
          clear hz
          by_cases hgt : sz < off' % sz + (4 : Int)
          · rw [if_pos hgt] at hfe2
            have HFE := Lib.hid hfe2
            clear hfe2
            go_wp2_with fail
            refine hTH.out.mono ?_
            rintro e w2 ⟨rfl, rfl⟩
            go_wp2_with fail
            refine (hSI.out _ (hT.kept hkA)).mono ?_
            rintro e w3 ⟨rfl, hk3⟩
            have hB3 := hk3.blk (fun h => h) hBt
            go_wp2_with fail
            refine (hIT.out _ ((htb4.kept hkA).kept hk3)).mono ?_
            rintro e w4 ⟨rfl, hk4⟩
            have hB4 := hk4.blk (fun h => h) hB3
            have c44 : w4.cell? ⟨wr.heap.size, 4, none⟩ = some (.int .i64 t.to) := hB4.cell 4
            go_wp2_with fail
            refine wp_region_mix0 [.w, .l, .w, .w, .w, .w, .w] (by kernel_rfl) (by kernel_rfl) ?_
            repeat (first
              | (refine mix_w1 ?_; go_big_quiet_step (fail); refine wpQuiet_nil ?_)
              | (refine mix_l1 rfl ?_; go_big_quiet_step (fail); refine wpQuiet_nil ?_))
            refine mix_done ?_
            go_wp2_with fail
            go_ret2
            exact ⟨by rw [← HR.out, ← HFE.out]; rfl, (((hK.trans hkA (fun _ _ h => h)).trans hk3 (fun _ _ h => h)).trans hk4 (fun _ _ h => h)).drew⟩
          · rw [if_neg hgt] at hfe2
            have HFE := Lib.hid hfe2
            clear hfe2
            go_wp2_with fail
            refine hTH.out.mono ?_
            rintro e w2 ⟨rfl, rfl⟩
            go_wp2_with fail
            refine (hSI.out _ (hT.kept hkA)).mono ?_
            rintro e w3 ⟨rfl, hk3⟩
            have hB3 := hk3.blk (fun h => h) hBt
            go_wp2_with fail
            refine (hIT.out _ ((htb4.kept hkA).kept hk3)).mono ?_
            rintro e w4 ⟨rfl, hk4⟩
            have hB4 := hk4.blk (fun h => h) hB3
            have c44 : w4.cell? ⟨wr.heap.size, 4, none⟩ = some (.int .i64 t.to) := hB4.cell 4
            go_wp2_with fail
            refine wp_region_mix0 [.w, .l, .w, .w, .w, .w, .w] (by kernel_rfl) (by kernel_rfl) ?_
            repeat (first
              | (refine mix_w1 ?_; go_big_quiet_step (fail); refine wpQuiet_nil ?_)
              | (refine mix_l1 rfl ?_; go_big_quiet_step (fail); refine wpQuiet_nil ?_))
            refine mix_done ?_
            go_wp2_with fail
            go_roundw
            case rel => exact ⟨k', off' % sz, way ++ 91 :: (it ++ [93]), f, by rw [HK'.out], rfl, rfl, hkl', r0, r1, H6N.out, by rw [HRK'.out]; exact hrf, by rw [← HK'.out]; exact HFE.out, (((hK.trans hkA (fun _ _ h => h)).trans hk3 (fun _ _ h => h)).trans hk4 (fun _ _ h => h)).drew, by rw [HRK'.out]; simp; omega⟩
            case measure =>
              simp only [intOf]
              exact hrel
      by_cases h12 : t.kind = 1 ∨ t.kind = 2
      · rw [if_pos h12] at hfe
        have hSI := fun W hW => size_ih l (some ⟨g, o, none⟩) c hg (rk l ((k : Int) + 1) + 1) k W hW hk (Nat.lt_succ_self _)
        have hsr := hg.size_range (rk l ((k : Int) + 1) + 1) ((k : Int) + 1) (Nat.lt_succ_self _) (by omega) (by omega)
        have hSI := Lib.hid hSI
        have HFE := Lib.hid hfe
        clear hfe
        by_cases hgt : sizeL l ((k : Int) + 1) < off' + (4 : Int)
        · have hF2 : RR = ([], 41) := by rw [← HFE.out, if_pos hgt]
          have e12 : (t.kind == 1) = true ∨ ((t.kind == 1) = false ∧ (t.kind == 2) = true) := by
            rcases h12 with e | e
            · exact .inl (by simpa using e)
            · exact .inr ⟨by simp; omega, by simpa using e⟩
          clear h12 h3 h6 hkk
          rcases e12 with e1 | ⟨e1, e2⟩
          all_goals
            go_wp2_with fail
            refine hTH.out.mono ?_
            rintro e w2 ⟨rfl, rfl⟩
            go_wp2_with fail
            refine (hSI.out _ (hT.kept hkA)).mono ?_
            rintro e w3 ⟨rfl, hk3⟩
            go_wp2_with fail
            go_ret2
            exact ⟨by rw [← HR.out, hF2]; rfl, (hK.trans hkA (fun _ _ h => h)).trans hk3 (fun _ _ h => h)⟩
        · have hF2 : RR = (way, 0) := by rw [← HFE.out, if_neg hgt]
          have e12 : (t.kind == 1) = true ∨ ((t.kind == 1) = false ∧ (t.kind == 2) = true) := by
            rcases h12 with e | e
            · exact .inl (by simpa using e)
            · exact .inr ⟨by simp; omega, by simpa using e⟩
          clear h12 h3 h6 hkk
          rcases e12 with e1 | ⟨e1, e2⟩
          all_goals
            go_wp2_with fail
            refine hTH.out.mono ?_
            rintro e w2 ⟨rfl, rfl⟩
            go_wp2_with fail
            refine (hSI.out _ (hT.kept hkA)).mono ?_
            rintro e w3 ⟨rfl, hk3⟩
            go_wp2_with fail
            go_ret2
            exact ⟨by rw [← HR.out, hF2]; rfl, (hK.trans hkA (fun _ _ h => h)).trans hk3 (fun _ _ h => h)⟩
      · rw [if_neg h12, if_neg h3] at hfe
        have h4 : t.kind = 4 := by omega
        have hME := Lib.hid (fun W hW hmW => member_any l (some ⟨g, o, none⟩) c k2 t ma mc off' (4 : Int) W hW hg hq2 h4 hmW ⟨ho, by omega⟩ ⟨by omega, by omega⟩)
        have hsuc : ∀ m ∈ t.mem, m.type ∈ succL l (throughL l ((k : Int) + 1)) := fun m hm => by
          unfold succL
          rw [hta]
          unfold holdsL
          simp only
          rw [if_neg (by omega), if_pos h4]
          exact List.mem_map.2 ⟨m, hm, rfl⟩
        have e1 : (t.kind == 1) = false := by simp; omega
        have e2 : (t.kind == 2) = false := by simp; omega
        have e3 : (t.kind == 3) = false := by simp; omega
        have hF4 : firstF (pF l) l.length = none := hF
        clear h12 h3 h6 hkk
        have H4 := Lib.hid h4
        clear h4
        cases hmr : (memberR l off' (4 : Int) t.mem).2 with
        | false =>
          rw [if_neg (by rw [hmr]; simp)] at hfe
          have HFE := Lib.hid hfe
          clear hfe
          go_wp2_with fail
          refine hTH.out.mono ?_
          rintro e w2 ⟨rfl, rfl⟩
          go_wp2_with fail
          refine (hME.out _ (hT.kept hkA) (hm.kept hkA)).mono ?_
          rintro e w3 ⟨rfl, hk3⟩
          rw [hmr]
          go_wp2_with fail
          go_ret2
          exact ⟨by rw [← HR.out, ← HFE.out]; rfl, ((hK.trans hkA (fun _ _ h => h)).trans hk3 (fun _ _ h => h)).alloc _⟩
        | true =>
          rw [if_pos hmr] at hfe
          obtain ⟨hmi, hmB⟩ := memberR_in hmr
          generalize hmm : (memberR l off' (4 : Int) t.mem).1 = m at *
          have hs := hsuc m hmi
          have hmt := hcl _ _ hs
          have hrk2 := rk_lt hcl hac hs
          have hrt : rk l (throughL l ((k : Int) + 1)) ≤ rk l ((k : Int) + 1) := through_rk hcl hac _ _
          unfold memberB at hmB
          simp only [Bool.and_eq_true, decide_eq_true_eq] at hmB
          obtain ⟨k', hk'⟩ : ∃ k' : Nat, m.type = (k' : Int) + 1 := ⟨(m.type - 1).toNat, by omega⟩
          have hfu : functionsB l t = false := by
            have := firstF_none hF (i := k2) hkl
            unfold pF at this
            rw [hq2] at this
            simpa using this
          have h6n : kindAt l (throughL l ((k' : Int) + 1)) ≠ 6 := by
            unfold functionsB at hfu
            rw [if_neg (by have := H4.out; omega), List.any_eq_false] at hfu
            have := hfu m.type (by
              have h5 := H4.out
              unfold holdsL
              rw [if_neg (by omega), if_pos h5]
              exact List.mem_map.2 ⟨m, hmi, rfl⟩)
            rw [← hk']
            simpa using this
          have hbl : 0 ≤ m.bits.tdiv 8 := by
            have h1 := firstF_none hLL (i := k2) hkl
            unfold pL at h1
            rw [hq2] at h1
            simp only [Option.map_some, Option.getD_some, Bool.not_eq_false'] at h1
            unfold laidB at h1
            rw [if_neg (by have := H4.out; omega), if_pos H4.out] at h1
            rw [Int.tdiv_eq_ediv_of_nonneg (laidM_bits h1 m hmi)]
            have := laidM_bits h1 m hmi
            omega
          have hnl := alone_names (hg.alone k2 t hq2) (by have := H4.out; omega) m hmi
          have hrn := rk_le l ((k : Int) + 1)
          have hway2 : way.length ≤ 10000 := by omega
          have hcat1 : (ByteArray.mk #[46]) ++ (ByteArray.mk m.name.toArray) = ByteArray.mk (46 :: m.name).toArray := by
            apply ByteArray.ext
            simp [ByteArray.data_append]
          have hcat2 : (ByteArray.mk way.toArray) ++ (ByteArray.mk (46 :: m.name).toArray) = ByteArray.mk (way ++ 46 :: m.name).toArray := by
            apply ByteArray.ext
            simp [ByteArray.data_append]
          have HFE := Lib.hid hfe
          have HK' := Lib.hid hk'
          have HMR := Lib.hid hmr
          have HMM := Lib.hid hmm
          clear hfe hk' hmr hmm
          go_wp2_with fail
          refine hTH.out.mono ?_
          rintro e w2 ⟨rfl, rfl⟩
          go_wp2_with fail
          refine (hME.out _ (hT.kept hkA) (hm.kept hkA)).mono ?_
          rintro e w3 ⟨rfl, hk3⟩
          rw [HMR.out]
          go_wp2_with fail
          refine wp_region_mix0 [.w, .l, .w, .w, .l, .w, .w, .w, .w] (by kernel_rfl) (by kernel_rfl) ?_
          repeat (first
            | (refine mix_w1 ?_; go_big_quiet_step (fail); refine wpQuiet_nil ?_)
            | (refine mix_l1 rfl ?_; go_big_quiet_step (fail); refine wpQuiet_nil ?_))
          refine mix_done ?_
          go_wp2_with fail
          go_roundw
          case rel =>
            have hr1 := HK'.out
            exact ⟨k', off' - m.bits.tdiv 8, way ++ 46 :: m.name, f, by rw [← hr1], rfl, rfl, by omega, by omega, by omega, h6n, by rw [← hr1]; omega, by rw [← hr1]; exact HFE.out, (((hK.trans hkA (fun _ _ h => h)).trans hk3 (fun _ _ h => h)).alloc _).drew, by rw [← hr1]; simp; omega⟩
          case measure =>
            simp only [intOf]
            omega
  · as_aux_lemma =>
    go_enter Tryd.func12, Tryd.ntmps12
    go_wp2_with fail
    refine hSZ.out.mono ?_
    rintro e w1 ⟨rfl, hk1⟩
    go_wp2_with fail
    go_loopw [1, 2, 12] (fun iv ov sv wr => ∃ (k : Nat) (off' : Int) (way : List UInt8) (f : Nat), iv = .int .i64 ((k : Int) + 1) ∧ ov = .int .i64 off' ∧ sv = nV way ∧ k < l.length ∧ 0 ≤ off' ∧ off' ≤ 65537 ∧ kindAt l (throughL l ((k : Int) + 1)) ≠ 6 ∧ rk l ((k : Int) + 1) < f ∧
      fieldF l (8 : Int) f ((k : Int) + 1) off' way = RR ∧ Kept (fun _ => False) w wr ∧ way.length ≤ 33 * (l.length - rk l ((k : Int) + 1))) (fun iv _ _ _ => rk l (intOf iv))
    case atStart => exact ⟨i, off, [], l.length + 1, rfl, rfl, rfl, by omega, ho, hoff, h6, Nat.lt_succ_of_le (rk_le l _), hR, hk1, Nat.zero_le _⟩
    case round =>
      clear hk1 h6 ho hoff hw hw2 hR
      obtain ⟨k, off', way, f, rfl, rfl, rfl, hk, ho, hoff, h6, hrk, hfe, hK, hway⟩ := hrel
      obtain ⟨f, rfl⟩ : ∃ f', f = f' + 1 := ⟨f - 1, by omega⟩
      obtain ⟨k2, t, hq1, hq2, hta, hk5⟩ := through_ix hg hk
      have hkl := (List.getElem?_eq_some_iff.1 hq2).1
      have htm := List.mem_of_getElem? hq2
      have hka : kindAt l (throughL l ((k : Int) + 1)) = t.kind := by unfold kindAt; rw [hta]; rfl
      rw [hka] at h6
      have hkk := (hg.sized hta).2.2
      have hT := h.kept hK
      obtain ⟨g, o, mv, rfl, hgl, hm, c0, c1, c2, c3, c4, c5, c6⟩ := hT.at_ hq2
      obtain ⟨ma, mc, rfl⟩ := hm.any
      have hkA : Kept (fun _ => False) wr (wr.alloc (.cells (tyVals t (.slice ma t.mem.length mc)) 38)) := (Kept.refl _ wr).alloc _
      have hBt := Blk.new wr 38 (tyVals t (.slice ma t.mem.length mc))
      simp only [fieldF, hta] at hfe
      have hTH := Lib.hid (through_any l (some ⟨g, o, none⟩) c k wr hT hg hk)
      rw [hq1] at hTH
      rcases Classical.em (t.kind = 3) with h3 | h3
      · have h12 : ¬ (t.kind = 1 ∨ t.kind = 2) := by omega
        rw [if_neg h12, if_pos h3] at hfe
        have hs := array_succ hta h3
        have hmt := hcl _ _ hs
        have hrk2 := rk_lt hcl hac hs
        have hrt : rk l (throughL l ((k : Int) + 1)) ≤ rk l ((k : Int) + 1) := through_rk hcl hac _ _
        obtain ⟨k', hk'⟩ : ∃ k' : Nat, t.to = (k' : Int) + 1 := ⟨(t.to - 1).toNat, by omega⟩
        have hfu : functionsB l t = false := by
          have := firstF_none hF (i := k2) hkl
          unfold pF at this
          rw [hq2] at this
          simpa using this
        have h6n : kindAt l (throughL l ((k' : Int) + 1)) ≠ 6 := by
          unfold functionsB at hfu
          rw [if_neg (by omega), List.any_eq_false] at hfu
          have := hfu t.to (by
            unfold holdsL
            rw [if_pos (.inr h3)]
            exact List.mem_singleton.2 rfl)
          rw [← hk']
          simpa using this
        have hsr := hg.size_range (rk l t.to + 1) t.to (Nat.lt_succ_self _) (by omega) (by omega)
        have hSI := Lib.hid (show ∀ W, Tys W (.slice (some ⟨g, o, none⟩) l.length c) l → Calls Tryd.prog 24 #[.slice (some ⟨g, o, none⟩) l.length c, .int .i64 t.to] W (fun e W' => e = .returned (.int .i64 (sizeL l t.to)) ∧ Kept (fun _ => False) W W') from fun W hW => by
          rw [hk']
          exact size_ih l (some ⟨g, o, none⟩) c hg (rk l ((k' : Int) + 1) + 1) k' W hW (by omega) (Nat.lt_succ_self _))
        have e1 : (t.kind == 1) = false := by simp; omega
        have e2 : (t.kind == 2) = false := by simp; omega
        have e3 : (t.kind == 3) = true := by simpa using h3
        have hrn := rk_le l ((k : Int) + 1)
        have hway2 : way.length ≤ 10000 := by omega
        have hrel : rk l t.to < rk l ((k : Int) + 1) := by omega
        have hrf : rk l t.to < f := by omega
        have hway3 : way.length + 33 ≤ 33 * (l.length - rk l t.to) := by omega
        have htb4 := htb.kept hK
        clear h12 h3 h6 hkk hfu hrk2 hrt hs hway hrk hka
        have HK' := Lib.hid hk'
        have H6N := Lib.hid h6n
        have hkl' : k' < l.length := by omega
        have hrk' : rk l ((k' : Int) + 1) = rk l t.to := by rw [HK'.out]
        have HRK' := Lib.hid hrk'
        clear hk' hrk' h6n hmt
        have hfe2 : (if sizeL l t.to = 0 then (([], 41) : List UInt8 × Int) else if sizeL l t.to < off' % sizeL l t.to + (8 : Int) then ([], 41) else fieldF l (8 : Int) f t.to (off' % sizeL l t.to) (way ++ 91 :: (Lib.itoa (off' / sizeL l t.to) ++ [93]))) = RR := hfe
        clear hfe
        generalize sizeL l t.to = sz at *
        by_cases hz : sz = 0
        · rw [if_pos hz] at hfe2
          have HFE := Lib.hid hfe2
          clear hfe2
          subst hz
          go_wp2_with fail
          refine hTH.out.mono ?_
          rintro e w2 ⟨rfl, rfl⟩
          go_wp2_with fail
          refine (hSI.out _ (hT.kept hkA)).mono ?_
          rintro e w3 ⟨rfl, hk3⟩
          go_wp2_with fail
          go_ret2
          exact ⟨by rw [← HR.out, ← HFE.out]; rfl, (hK.trans hkA (fun _ _ h => h)).trans hk3 (fun _ _ h => h)⟩
        · rw [if_neg hz] at hfe2
          have z1 : (sz == 0) = false := by simpa using hz
          have z2 : 1 ≤ sz := by omega
          have q0 : 0 ≤ off' / sz := Int.ediv_nonneg ho (by omega)
          have q1 : off' / sz ≤ 65537 := Int.le_trans (Int.ediv_le_self _ ho) hoff
          have r0 : 0 ≤ off' % sz := Int.emod_nonneg _ hz
          have r1 : off' % sz ≤ 65537 := by have := Int.emod_lt_of_pos off' (show 0 < sz by omega); omega
          have hIT := Lib.hid (fun W (hW : PowTab W) => itoa_any (off' / sz) q0 (by omega) W hW)
          have hil := itoa_len (off' / sz) q0 (by omega)
          generalize Lib.itoa (off' / sz) = it at *
          have hcat1 : (ByteArray.mk #[91]) ++ (ByteArray.mk it.toArray) = ByteArray.mk (91 :: it).toArray := by
            apply ByteArray.ext
            simp [ByteArray.data_append]
          have hcat2 : (ByteArray.mk (91 :: it).toArray) ++ (ByteArray.mk #[93]) = ByteArray.mk (91 :: (it ++ [93])).toArray := by
            apply ByteArray.ext
            simp [ByteArray.data_append]
          have hcat3 : (ByteArray.mk way.toArray) ++ (ByteArray.mk (91 :: (it ++ [93])).toArray) = ByteArray.mk (way ++ 91 :: (it ++ [93])).toArray := by
            apply ByteArray.ext
            simp [ByteArray.data_append]
          have hBt4 : wr.heap.size < (wr.alloc (.cells (tyVals t (.slice ma t.mem.length mc)) 38)).heap.size := by simp
          have HZ := Lib.hid hz
          clear hz
          by_cases hgt : sz < off' % sz + (8 : Int)
          · rw [if_pos hgt] at hfe2
            have HFE := Lib.hid hfe2
            clear hfe2
            go_wp2_with fail
            refine hTH.out.mono ?_
            rintro e w2 ⟨rfl, rfl⟩
            go_wp2_with fail
            refine (hSI.out _ (hT.kept hkA)).mono ?_
            rintro e w3 ⟨rfl, hk3⟩
            have hB3 := hk3.blk (fun h => h) hBt
            go_wp2_with fail
            refine (hIT.out _ ((htb4.kept hkA).kept hk3)).mono ?_
            rintro e w4 ⟨rfl, hk4⟩
            have hB4 := hk4.blk (fun h => h) hB3
            have c44 : w4.cell? ⟨wr.heap.size, 4, none⟩ = some (.int .i64 t.to) := hB4.cell 4
            go_wp2_with fail
            refine wp_region_mix0 [.w, .l, .w, .w, .w, .w, .w] (by kernel_rfl) (by kernel_rfl) ?_
            repeat (first
              | (refine mix_w1 ?_; go_big_quiet_step (fail); refine wpQuiet_nil ?_)
              | (refine mix_l1 rfl ?_; go_big_quiet_step (fail); refine wpQuiet_nil ?_))
            refine mix_done ?_
            go_wp2_with fail
            go_ret2
            exact ⟨by rw [← HR.out, ← HFE.out]; rfl, (((hK.trans hkA (fun _ _ h => h)).trans hk3 (fun _ _ h => h)).trans hk4 (fun _ _ h => h)).drew⟩
          · rw [if_neg hgt] at hfe2
            have HFE := Lib.hid hfe2
            clear hfe2
            go_wp2_with fail
            refine hTH.out.mono ?_
            rintro e w2 ⟨rfl, rfl⟩
            go_wp2_with fail
            refine (hSI.out _ (hT.kept hkA)).mono ?_
            rintro e w3 ⟨rfl, hk3⟩
            have hB3 := hk3.blk (fun h => h) hBt
            go_wp2_with fail
            refine (hIT.out _ ((htb4.kept hkA).kept hk3)).mono ?_
            rintro e w4 ⟨rfl, hk4⟩
            have hB4 := hk4.blk (fun h => h) hB3
            have c44 : w4.cell? ⟨wr.heap.size, 4, none⟩ = some (.int .i64 t.to) := hB4.cell 4
            go_wp2_with fail
            refine wp_region_mix0 [.w, .l, .w, .w, .w, .w, .w] (by kernel_rfl) (by kernel_rfl) ?_
            repeat (first
              | (refine mix_w1 ?_; go_big_quiet_step (fail); refine wpQuiet_nil ?_)
              | (refine mix_l1 rfl ?_; go_big_quiet_step (fail); refine wpQuiet_nil ?_))
            refine mix_done ?_
            go_wp2_with fail
            go_roundw
            case rel => exact ⟨k', off' % sz, way ++ 91 :: (it ++ [93]), f, by rw [HK'.out], rfl, rfl, hkl', r0, r1, H6N.out, by rw [HRK'.out]; exact hrf, by rw [← HK'.out]; exact HFE.out, (((hK.trans hkA (fun _ _ h => h)).trans hk3 (fun _ _ h => h)).trans hk4 (fun _ _ h => h)).drew, by rw [HRK'.out]; simp; omega⟩
            case measure =>
              simp only [intOf]
              exact hrel
      by_cases h12 : t.kind = 1 ∨ t.kind = 2
      · rw [if_pos h12] at hfe
        have hSI := fun W hW => size_ih l (some ⟨g, o, none⟩) c hg (rk l ((k : Int) + 1) + 1) k W hW hk (Nat.lt_succ_self _)
        have hsr := hg.size_range (rk l ((k : Int) + 1) + 1) ((k : Int) + 1) (Nat.lt_succ_self _) (by omega) (by omega)
        have hSI := Lib.hid hSI
        have HFE := Lib.hid hfe
        clear hfe
        by_cases hgt : sizeL l ((k : Int) + 1) < off' + (8 : Int)
        · have hF2 : RR = ([], 41) := by rw [← HFE.out, if_pos hgt]
          have e12 : (t.kind == 1) = true ∨ ((t.kind == 1) = false ∧ (t.kind == 2) = true) := by
            rcases h12 with e | e
            · exact .inl (by simpa using e)
            · exact .inr ⟨by simp; omega, by simpa using e⟩
          clear h12 h3 h6 hkk
          rcases e12 with e1 | ⟨e1, e2⟩
          all_goals
            go_wp2_with fail
            refine hTH.out.mono ?_
            rintro e w2 ⟨rfl, rfl⟩
            go_wp2_with fail
            refine (hSI.out _ (hT.kept hkA)).mono ?_
            rintro e w3 ⟨rfl, hk3⟩
            go_wp2_with fail
            go_ret2
            exact ⟨by rw [← HR.out, hF2]; rfl, (hK.trans hkA (fun _ _ h => h)).trans hk3 (fun _ _ h => h)⟩
        · have hF2 : RR = (way, 0) := by rw [← HFE.out, if_neg hgt]
          have e12 : (t.kind == 1) = true ∨ ((t.kind == 1) = false ∧ (t.kind == 2) = true) := by
            rcases h12 with e | e
            · exact .inl (by simpa using e)
            · exact .inr ⟨by simp; omega, by simpa using e⟩
          clear h12 h3 h6 hkk
          rcases e12 with e1 | ⟨e1, e2⟩
          all_goals
            go_wp2_with fail
            refine hTH.out.mono ?_
            rintro e w2 ⟨rfl, rfl⟩
            go_wp2_with fail
            refine (hSI.out _ (hT.kept hkA)).mono ?_
            rintro e w3 ⟨rfl, hk3⟩
            go_wp2_with fail
            go_ret2
            exact ⟨by rw [← HR.out, hF2]; rfl, (hK.trans hkA (fun _ _ h => h)).trans hk3 (fun _ _ h => h)⟩
      · rw [if_neg h12, if_neg h3] at hfe
        have h4 : t.kind = 4 := by omega
        have hME := Lib.hid (fun W hW hmW => member_any l (some ⟨g, o, none⟩) c k2 t ma mc off' (8 : Int) W hW hg hq2 h4 hmW ⟨ho, by omega⟩ ⟨by omega, by omega⟩)
        have hsuc : ∀ m ∈ t.mem, m.type ∈ succL l (throughL l ((k : Int) + 1)) := fun m hm => by
          unfold succL
          rw [hta]
          unfold holdsL
          simp only
          rw [if_neg (by omega), if_pos h4]
          exact List.mem_map.2 ⟨m, hm, rfl⟩
        have e1 : (t.kind == 1) = false := by simp; omega
        have e2 : (t.kind == 2) = false := by simp; omega
        have e3 : (t.kind == 3) = false := by simp; omega
        have hF4 : firstF (pF l) l.length = none := hF
        clear h12 h3 h6 hkk
        have H4 := Lib.hid h4
        clear h4
        cases hmr : (memberR l off' (8 : Int) t.mem).2 with
        | false =>
          rw [if_neg (by rw [hmr]; simp)] at hfe
          have HFE := Lib.hid hfe
          clear hfe
          go_wp2_with fail
          refine hTH.out.mono ?_
          rintro e w2 ⟨rfl, rfl⟩
          go_wp2_with fail
          refine (hME.out _ (hT.kept hkA) (hm.kept hkA)).mono ?_
          rintro e w3 ⟨rfl, hk3⟩
          rw [hmr]
          go_wp2_with fail
          go_ret2
          exact ⟨by rw [← HR.out, ← HFE.out]; rfl, ((hK.trans hkA (fun _ _ h => h)).trans hk3 (fun _ _ h => h)).alloc _⟩
        | true =>
          rw [if_pos hmr] at hfe
          obtain ⟨hmi, hmB⟩ := memberR_in hmr
          generalize hmm : (memberR l off' (8 : Int) t.mem).1 = m at *
          have hs := hsuc m hmi
          have hmt := hcl _ _ hs
          have hrk2 := rk_lt hcl hac hs
          have hrt : rk l (throughL l ((k : Int) + 1)) ≤ rk l ((k : Int) + 1) := through_rk hcl hac _ _
          unfold memberB at hmB
          simp only [Bool.and_eq_true, decide_eq_true_eq] at hmB
          obtain ⟨k', hk'⟩ : ∃ k' : Nat, m.type = (k' : Int) + 1 := ⟨(m.type - 1).toNat, by omega⟩
          have hfu : functionsB l t = false := by
            have := firstF_none hF (i := k2) hkl
            unfold pF at this
            rw [hq2] at this
            simpa using this
          have h6n : kindAt l (throughL l ((k' : Int) + 1)) ≠ 6 := by
            unfold functionsB at hfu
            rw [if_neg (by have := H4.out; omega), List.any_eq_false] at hfu
            have := hfu m.type (by
              have h5 := H4.out
              unfold holdsL
              rw [if_neg (by omega), if_pos h5]
              exact List.mem_map.2 ⟨m, hmi, rfl⟩)
            rw [← hk']
            simpa using this
          have hbl : 0 ≤ m.bits.tdiv 8 := by
            have h1 := firstF_none hLL (i := k2) hkl
            unfold pL at h1
            rw [hq2] at h1
            simp only [Option.map_some, Option.getD_some, Bool.not_eq_false'] at h1
            unfold laidB at h1
            rw [if_neg (by have := H4.out; omega), if_pos H4.out] at h1
            rw [Int.tdiv_eq_ediv_of_nonneg (laidM_bits h1 m hmi)]
            have := laidM_bits h1 m hmi
            omega
          have hnl := alone_names (hg.alone k2 t hq2) (by have := H4.out; omega) m hmi
          have hrn := rk_le l ((k : Int) + 1)
          have hway2 : way.length ≤ 10000 := by omega
          have hcat1 : (ByteArray.mk #[46]) ++ (ByteArray.mk m.name.toArray) = ByteArray.mk (46 :: m.name).toArray := by
            apply ByteArray.ext
            simp [ByteArray.data_append]
          have hcat2 : (ByteArray.mk way.toArray) ++ (ByteArray.mk (46 :: m.name).toArray) = ByteArray.mk (way ++ 46 :: m.name).toArray := by
            apply ByteArray.ext
            simp [ByteArray.data_append]
          have HFE := Lib.hid hfe
          have HK' := Lib.hid hk'
          have HMR := Lib.hid hmr
          have HMM := Lib.hid hmm
          clear hfe hk' hmr hmm
          go_wp2_with fail
          refine hTH.out.mono ?_
          rintro e w2 ⟨rfl, rfl⟩
          go_wp2_with fail
          refine (hME.out _ (hT.kept hkA) (hm.kept hkA)).mono ?_
          rintro e w3 ⟨rfl, hk3⟩
          rw [HMR.out]
          go_wp2_with fail
          refine wp_region_mix0 [.w, .l, .w, .w, .l, .w, .w, .w, .w] (by kernel_rfl) (by kernel_rfl) ?_
          repeat (first
            | (refine mix_w1 ?_; go_big_quiet_step (fail); refine wpQuiet_nil ?_)
            | (refine mix_l1 rfl ?_; go_big_quiet_step (fail); refine wpQuiet_nil ?_))
          refine mix_done ?_
          go_wp2_with fail
          go_roundw
          case rel =>
            have hr1 := HK'.out
            exact ⟨k', off' - m.bits.tdiv 8, way ++ 46 :: m.name, f, by rw [← hr1], rfl, rfl, by omega, by omega, by omega, h6n, by rw [← hr1]; omega, by rw [← hr1]; exact HFE.out, (((hK.trans hkA (fun _ _ h => h)).trans hk3 (fun _ _ h => h)).alloc _).drew, by rw [← hr1]; simp; omega⟩
          case measure =>
            simp only [intOf]
            omega

theorem field_any (l : List Ty) (a : Option Addr) (c : Nat) (id off n : Int) (w : World) (h : Tys w (.slice a l.length c) l) (hr : Raw l) (htb : PowTab w) (ho : -9223372036854775808 ≤ off ∧ off ≤ 9223372036854775807) :
    Calls Tryd.prog 12 #[.slice a l.length c, .int .i64 id, .int .i64 off, .int .i64 n] w fun e w' => e = .returned (.tuple #[nV (fieldA l id off n).1, .int .i64 (fieldA l id off n).2]) ∧ Kept (fun _ => False) w w' := by
  by_cases h0 : (sizeR l id).2 = 0
  · by_cases hb : off < 0 ∨ ¬ (n = 1 ∨ n = 2 ∨ n = 4 ∨ n = 8) ∨ (sizeR l id).1 < off ∨ (sizeR l id).1 - off < n
    · have e : fieldA l id off n = ([], 43) := by unfold fieldA; rw [if_neg (by simpa using h0), if_pos hb]
      rw [e]
      exact field_bad l a c id off n w h hr h0 ho hb
    · have b1 : ¬ off < 0 := fun h => hb (.inl h)
      have b2 : n = 1 ∨ n = 2 ∨ n = 4 ∨ n = 8 := Classical.not_not.1 fun h => hb (.inr (.inl h))
      have b3 : ¬ (sizeR l id).1 < off := fun h => hb (.inr (.inr (.inl h)))
      have b4 : ¬ (sizeR l id).1 - off < n := fun h => hb (.inr (.inr (.inr h)))
      exact field_in l a c id off n w h hr htb b2 h0 (by omega) (by omega) (by omega)
  · have e : fieldA l id off n = ([], (sizeR l id).2) := by unfold fieldA; rw [if_pos h0]
    rw [e]
    exact field_err l a c id off n w h hr h0

end Go.Proofs.YtmgdjiplpfeoiaaDoor
