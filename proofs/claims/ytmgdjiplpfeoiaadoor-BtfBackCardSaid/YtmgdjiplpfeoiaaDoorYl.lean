import Derived.Test.YtmgdjiplpfeoiaaDoorYk
import Derived.Test.YtmgdjiplpfeoiaaDoorUe
import Derived.Outline
import Derived.Deep.DeepCutAuto
import Derived.Deep.CutBlock
set_option linter.unusedSimpArgs false
set_option linter.unusedVariables false
namespace Go.Proofs.YtmgdjiplpfeoiaaDoor
open Go.RowKit

/-- the state of a round of the document's Decode: what is ahead of w, but for the reader, is as it was -/
structure TK (w W : World) (g : Nat) (bv : Value) (b : List UInt8) (s : St) (T : Nat) (cs : Array Value) : Prop where
  rd : RD 84 W g bv b s
  t : Blk W T 38 cs
  k : Kept (fun k => k = g) w W
  gt : ¬ T = g
  lt : w.heap.size ≤ T
  bt : ¬ bv.ownBlock = some T
theorem TK.next {w W W' : World} {g T : Nat} {bv : Value} {b : List UInt8} {s s' : St} {cs : Array Value} (h : TK w W g bv b s T cs) (hR : RD 84 W' g bv b s') (hk : Kept (fun k => k = g) W W') : TK w W' g bv b s' T cs :=
  ⟨hR, hk.blk h.gt h.t, h.k.trans hk (fun _ _ h => h), h.gt, h.lt, h.bt⟩
theorem TK.set_ {w W : World} {g T : Nat} {bv : Value} {b : List UInt8} {s : St} {cs : Array Value} (h : TK w W g bv b s T cs) (i : Nat) (u : Value) : TK w (W.setCell ⟨T, i, none⟩ u) g bv b s T (cs.setIfInBounds i u) := by
  have hk : Kept (fun k => k = T) W (W.setCell ⟨T, i, none⟩ u) := (Kept.refl (fun k => k = T) W).setCell (fun _ => rfl) _
  have hl := h.lt
  exact ⟨h.rd.kept hk (fun e => h.gt e.symm) (fun k hk2 e => h.bt (by rw [hk2, e])), h.t.set_ i u, h.k.trans hk (fun k hkl e => by omega), h.gt, h.lt, h.bt⟩

set_option maxHeartbeats 16000000 in
set_option maxRecDepth 100000 in
theorem refdecode_any (bv : Value) (b : List UInt8) (w : World) (hb : By w bv b) (hl : b.length ≤ 1000000) :
    Calls Tryd.prog 20 #[bv] w fun e w' => ∃ lv, e = .returned (.tuple #[lv, .int .i64 (decR b).2.1, .int .i64 (decR b).2.2]) ∧ Tys w' lv (decR b).1 ∧ Kept (fun _ => False) w w' := by
  obtain ⟨D, hD⟩ : ∃ D, decR b = D := ⟨_, rfl⟩
  rw [hD]
  unfold decR at hD
  have hRW : rawR limR b = typsR limR b (min (numR 2147483647 b (0, false)).1 257) (numR 2147483647 b (0, false)).2 := rfl
  have hCN : cntR limR b = numR 2147483647 b (0, false) := rfl
  rw [hCN] at hD
  generalize rawR limR b = RW at *
  obtain ⟨g, hg⟩ : ∃ g, w.heap.size = g := ⟨_, rfl⟩
  have hR0 : RD 84 (w.alloc (.cells #[bv, .int .i64 0, .bool false] 84)) g bv b (0, false) := by
    subst hg
    exact ⟨Blk.new w _ _, hb.alloc _, fun k hk => by have := hb.lt k hk; omega, Nat.zero_le _, hl⟩
  have hK0 : Kept (fun _ => False) w (w.alloc (.cells #[bv, .int .i64 0, .bool false] 84)) := (Kept.refl _ w).alloc _
  have hc := Lib.hid (fun W hW => rfour_any g bv b (0, false) W hW)
  have hnf := numR_le 2147483647 b (0, false)
  generalize numR 2147483647 b (0, false) = r at *
  obtain ⟨N, s0⟩ := r
  simp only at hRW hnf hD
  have HD := Lib.hid hD
  have HRW := Lib.hid hRW
  clear hD hRW hCN
  obtain ⟨A, c, rfl⟩ := hb.any
  go_enter Tryd.func20, Tryd.ntmps20
  go_wp2_with fail
  refine (hc.out _ hR0).mono ?_
  rintro e w1 ⟨rfl, hR1, hk1⟩
  have hK1 : Kept (fun _ => False) w w1 := hK0.trans hk1 (fun k hkl e => by omega)
  clear hR0 hK0 hk1 hc
  go_wp2_with fail
  go_loopw [8, 6] (fun iv lv wr => ∃ (i m : Nat) (s' : St) (acc : List Ty), iv = .int .i64 i ∧ i + m = min N 257 ∧ acc.length = i ∧ typsR limR b (min N 257) s0 = (acc ++ (typsR limR b m s').1, (typsR limR b m s').2) ∧
    RD 84 wr g (.slice A b.length c) b s' ∧ TM wr (g + 1) lv acc ∧ Kept (fun _ => False) w wr) (fun iv _ _ => 300 - (intOf iv).toNat)
  case atStart => exact ⟨0, min N 257, s0, [], rfl, by omega, rfl, by simp, hR1, TM.nil _ _, hK1⟩
  case round =>
    clear hR1 hK1
    obtain ⟨i, m, s', acc, rfl, him, hacc, hms, hR, hM, hK⟩ := hrel
    have hbg := hR.blk
    have q2 := hbg.cell 2
    have hgl := hbg.lt
    go_upto_region 5 with fail
    go_cut [33] (fun tv wx => tv = .bool (decide (0 < m) && !s'.2) ∧ wr = wx)
    case first =>
      as_aux_lemma =>
      obtain ⟨at', bad'⟩ := s'
      simp only at q2
      by_cases h1 : (i : Int) < N
      · by_cases h2 : (i : Int) ≤ 256
        · have hm0 : decide (0 < m) = true := decide_eq_true (by omega)
          have HM0 := Lib.hid hm0
          clear hm0
          cases bad'
          all_goals
            go_wp2_with fail
            go_meet
            rw [HM0.out]
            exact ⟨rfl, rfl⟩
        · have hm0 : decide (0 < m) = false := decide_eq_false (by omega)
          have HM0 := Lib.hid hm0
          clear hm0
          have h2d : decide ((i : Int) ≤ 256) = false := decide_eq_false h2
          go_wp2_with fail
          go_meet
          rw [HM0.out]
          exact ⟨rfl, rfl⟩
      · have hm0 : decide (0 < m) = false := decide_eq_false (by omega)
        have HM0 := Lib.hid hm0
        clear hm0
        have h1d : decide ((i : Int) < N) = false := decide_eq_false h1
        go_wp2_with fail
        go_meet
        rw [HM0.out]
        exact ⟨rfl, rfl⟩
    case rest =>
    obtain ⟨htv, rfl⟩ := hcut
    by_cases hgo : 0 < m ∧ s'.2 = false
    case neg =>
      as_aux_lemma =>
      have hcut2 : _ = Value.bool false := htv.trans (congrArg Value.bool (by
        cases e : s'.2
        · have : ¬ 0 < m := fun h => hgo ⟨h, e⟩
          rw [decide_eq_false this]; rfl
        · simp))
      clear htv
      have hend : typsR limR b m s' = ([], s') := by
        cases m with
        | zero => rfl
        | succ m =>
          unfold typsR
          rw [if_pos (by
            cases e : s'.2
            · exact absurd ⟨Nat.succ_pos _, e⟩ hgo
            · rfl)]
      rw [hend] at hms
      have hRR : RW = (acc, s') := by
        rw [HRW.out, hms]
        simp
      have hDD := HD.out
      rw [hRR] at hDD
      simp only at hDD
      have hdec : 0 < m → s'.2 = true := fun h => by
        cases e : s'.2
        · exact absurd ⟨h, e⟩ hgo
        · rfl
      have hraw : Raw acc := by
        refine raw_of (by omega) ?_
        have := typsR_raw limR b (by decide) (min N 257) s0
        rw [← HRW.out, hRR] at this
        exact this
      have HDD := Lib.hid hDD
      clear hend hms hRR HRW HD hgo hDD
      obtain ⟨at', bad'⟩ := s'
      have q1 := hbg.cell 1
      simp only at hdec q2 q1 HDD
      obtain ⟨lA, lc, rfl⟩ := hM.any
      have hCH := Lib.hid (refcheck_any acc lA lc wr hM.tys hraw)
      have hT := hM.tys
      clear hM hraw
      generalize hx1 : (checkL acc).1 = x1 at *
      generalize hx2 : (checkL acc).2 = x2 at *
      clear hx1 hx2 hdec
      subst hcut2
      subst hacc
      clear him
      go_wp2_with fail
      refine hCH.out.mono ?_
      rintro e w2 ⟨rfl, hk2⟩
      have q2b := (hk2.cell (p := ⟨g, 2, none⟩) hgl (fun h => h)).trans q2
      have q1b := (hk2.cell (p := ⟨g, 1, none⟩) hgl (fun h => h)).trans q1
      have hK2 := hK.trans hk2 (fun _ _ h => h)
      have hT2 := hT.kept hk2
      clear q1 q2 hCH
      go_upto_region 20 with fail
      go_cut [117] (fun tv wx => tv = .bool (bad' || (x2 != 0 || (N != acc.length))) ∧ w2 = wx)
      case first =>
        as_aux_lemma =>
        cases bad' with
        | true =>
          go_wp2_with fail
          go_meet
          exact ⟨rfl, rfl⟩
        | false =>
          by_cases h0 : x2 = 0
          · subst h0
            by_cases h1 : N = acc.length
            · have h1d : ((N : Int) != (acc.length : Nat)) = false := by simp [h1]
              have h1e : (N != acc.length) = false := by simp [h1]
              clear h1
              go_wp2_with fail
              go_meet
              rw [h1e]
              exact ⟨rfl, rfl⟩
            · have h1d : ((N : Int) != (acc.length : Nat)) = true := by simp; omega
              have h1e : (N != acc.length) = true := by simp; omega
              clear h1
              go_wp2_with fail
              go_meet
              rw [h1e]
              exact ⟨rfl, rfl⟩
          · have he2 : (x2 != 0) = true := by simpa using h0
            clear h0
            go_wp2_with fail
            go_meet
            rw [he2]
            exact ⟨rfl, rfl⟩
      case rest =>
      obtain ⟨htv, rfl⟩ := hcut
      by_cases hbad : bad' = true ∨ x2 ≠ 0 ∨ N ≠ acc.length
      · have hDf : D = ([], 0, 40) := by rw [← HDD.out, if_pos hbad]
        have HDF := Lib.hid hDf
        have htv2 : (bad' || (x2 != 0 || (N != acc.length))) = true := by
          rcases hbad with h | h | h
          · simp [h]
          · simp [h]
          · simp [h]
        rw [htv2] at htv
        subst htv
        clear hbad HDD hDf htv2
        go_wp2_with fail
        go_ret3
        rw [HDF.out]
        exact ⟨_, rfl, Tys.none _, hK2⟩
      · have hDf : D = (acc, at', 0) := by rw [← HDD.out, if_neg hbad]
        have HDF := Lib.hid hDf
        have htv2 : (bad' || (x2 != 0 || (N != acc.length))) = false := by
          simp at hbad
          simp [hbad]
        rw [htv2] at htv
        subst htv
        clear hbad HDD hDf htv2
        go_wp2_with fail
        refine wp_region_mix0 [.w, .w, .w, .w, .l, .w, .w, .w] (by kernel_rfl) (by kernel_rfl) ?_
        repeat (first
          | (refine mix_w1 ?_; go_big_quiet_step (fail); refine wpQuiet_nil ?_)
          | (refine mix_l1 rfl ?_; go_big_quiet_step (fail); refine wpQuiet_nil ?_))
        refine mix_done ?_
        go_wp2_with fail
        go_ret3
        rw [HDF.out]
        exact ⟨_, rfl, hT2.kept (Kept.refl _ w2).drew, hK2.drew⟩
    case pos =>
      obtain ⟨m, rfl⟩ : ∃ m', m = m' + 1 := ⟨m - 1, by omega⟩
      obtain ⟨at', bad'⟩ := s'
      obtain rfl : bad' = false := hgo.2
      have hcut2 : _ = Value.bool true := htv.trans (congrArg Value.bool (by rw [decide_eq_true (Nat.succ_pos m)]; rfl))
      clear htv
      subst hcut2
      have hi256 : i ≤ 256 := by omega
      have hnx : typsR limR b (m + 1) (at', false) = ((typR limR b (at', false)).1 :: (typsR limR b m (typR limR b (at', false)).2).1, (typsR limR b m (typR limR b (at', false)).2).2) := by
        rw [typsR]
        simp
      rw [hnx] at hms
      clear hnx hgo HD HRW
      obtain ⟨R, hRR⟩ : ∃ R, typR limR b (at', false) = R := ⟨_, rfl⟩
      rw [hRR] at hms
      have HMS := Lib.hid hms
      clear hms
      unfold typR hdR at hRR
      simp only [limR] at hRR
      have hLB : (⟨2147483647, 2147483647, 2147483647, 2147483647, 2147483647, 2147483647, 2147483647, 65, 257⟩ : Lim) = limR := rfl
      rw [hLB] at hRR
      clear hLB
      have hc1 := Lib.hid (fun W hW => refrbyte_any g (.slice A b.length c) b (at', false) W hW)
      generalize byteR b (at', false) = r1 at *
      obtain ⟨k, s1⟩ := r1
      have hc2 := Lib.hid (fun W hW => refrname_any g (.slice A b.length c) b s1 W hW)
      simp only at hRR
      generalize nmR b s1 = r2 at *
      obtain ⟨nm, s2⟩ := r2
      have hc3 := Lib.hid (fun W hW => rfour_any g (.slice A b.length c) b s2 W hW)
      simp only at hRR
      generalize numR 2147483647 b s2 = r3 at *
      obtain ⟨sz, s3⟩ := r3
      have hc4 := Lib.hid (fun W hW => refrbyte_any g (.slice A b.length c) b s3 W hW)
      simp only at hRR
      generalize byteR b s3 = r4 at *
      obtain ⟨fl, s4⟩ := r4
      have hF : flagS (fl, s4) = (s4.1, s4.2 || decide (1 < fl)) := rfl
      rw [hF] at hRR
      have hc5 := Lib.hid (fun W hW => rfour_any g (.slice A b.length c) b (s4.1, s4.2 || decide (1 < fl)) W hW)
      generalize numR 2147483647 b (s4.1, s4.2 || decide (1 < fl)) = r5 at *
      obtain ⟨tt, s5⟩ := r5
      have hc6 := Lib.hid (fun W hW => rfour_any g (.slice A b.length c) b s5 W hW)
      simp only at hRR
      generalize numR 2147483647 b s5 = r6 at *
      obtain ⟨ct, s6⟩ := r6
      have hc7 := Lib.hid (fun W hW => rfour_any g (.slice A b.length c) b s6 W hW)
      simp only at hRR
      generalize numR 2147483647 b s6 = r7 at *
      obtain ⟨M, s7⟩ := r7
      simp only at hRR
      have HR := Lib.hid hRR
      clear hRR hF
      simp only at q2
      obtain ⟨W1, rfl⟩ : ∃ W1 : World, W1 = wr := ⟨_, rfl⟩
      clear q2 hbg
      go_wp2_with fail
      refine (hc1.out _ hR).mono ?_
      rintro e w1 ⟨rfl, hR1, hk1⟩
      have hK1 := hk1
      go_wp2_with fail
      refine (hc2.out _ hR1).mono ?_
      rintro e w2 ⟨rfl, hR2, hk2⟩
      have hK2 := hK1.trans hk2 (fun _ _ h => h)
      go_wp2_with fail
      refine (hc3.out _ hR2).mono ?_
      rintro e w3 ⟨rfl, hR3, hk3⟩
      have hK3 := hK2.trans hk3 (fun _ _ h => h)
      have hA : Kept (fun _ => False) w3 (w3.alloc (.cells #[.int .i64 k, nV nm, .int .i64 sz, .bool false, .int .i64 0, .int .i64 0, .slice none 0 0] 38)) := (Kept.refl _ w3).alloc _
      have hT3 := Blk.new w3 38 #[.int .i64 k, nV nm, .int .i64 sz, .bool false, .int .i64 0, .int .i64 0, .slice none 0 0]
      have hR3a := hR3.quiet hA
      have hK3a := hK3.trans hA (fun _ _ h => h.elim)
      have hs3 := hK3.size
      obtain ⟨T, hT⟩ : ∃ T, w3.heap.size = T := ⟨_, rfl⟩
      rw [hT] at hT3 hs3
      have hgT : ¬ T = g := by omega
      have hbT : ¬ (Value.slice A b.length c).ownBlock = some T := fun e => by have := hb.lt T e; omega
      have hJ3 : TK W1 (w3.alloc (.cells #[.int .i64 k, nV nm, .int .i64 sz, .bool false, .int .i64 0, .int .i64 0, .slice none 0 0] 38)) g (.slice A b.length c) b s3 T #[.int .i64 k, nV nm, .int .i64 sz, .bool false, .int .i64 0, .int .i64 0, .slice none 0 0] := ⟨hR3a, hT3, hK3a, hgT, hs3, hbT⟩
      clear hk1 hk2 hk3 hK1 hK2 hK3 hR1 hR2 hR3 hA hR3a hT3 hK3a hc1 hc2 hc3
      go_wp2_with fail
      refine (hc4.out _ hJ3.rd).mono ?_
      rintro e w4 ⟨rfl, hR4, hk4⟩
      have hJ4 := hJ3.next hR4 hk4
      clear hJ3 hR4 hk4
      have hb4 := hJ4.rd.blk
      have d2 := hb4.cell 2
      have f2 := hb4.frozen 2
      go_upto_region 9 with fail
      go_cut [10] (fun fv wx => fv = .int .i64 (fl : Nat) ∧ TK W1 wx g (.slice A b.length c) b (s4.1, s4.2 || decide (1 < fl)) T #[.int .i64 k, nV nm, .int .i64 sz, .bool false, .int .i64 0, .int .i64 0, .slice none 0 0])
      case first =>
        as_aux_lemma =>
        obtain ⟨at4, bad4⟩ := s4
        simp only at d2
        have hfin : ∀ v : Bool, TK W1 (w4.setCell ⟨g, 2, none⟩ (.bool v)) g (.slice A b.length c) b (at4, v) T #[.int .i64 k, nV nm, .int .i64 sz, .bool false, .int .i64 0, .int .i64 0, .slice none 0 0] := fun v => by
          obtain ⟨h1, h2⟩ := hJ4.rd.setBad v
          exact hJ4.next h1 h2
        have HF := Lib.hid hfin
        clear hfin
        cases bad4 with
        | true =>
          go_wp2_with fail
          go_meet
          exact ⟨rfl, HF.out true⟩
        | false =>
          by_cases h1 : 1 < fl
          · have h1d : decide ((1 : Int) < fl) = true := decide_eq_true (by omega)
            have h1e : decide (1 < fl) = true := decide_eq_true h1
            go_wp2_with fail
            go_meet
            rw [h1e]
            exact ⟨rfl, HF.out true⟩
          · have h1d : decide ((1 : Int) < fl) = false := decide_eq_false (by omega)
            have h1e : decide (1 < fl) = false := decide_eq_false h1
            go_wp2_with fail
            go_meet
            rw [h1e]
            exact ⟨rfl, HF.out false⟩
      case rest =>
      clear d2 f2 hb4 hJ4 hc4
      obtain ⟨rfl, hJ4⟩ := hcut
      have hJ4a := hJ4.set_ 3 (.bool ((fl : Int) == 1))
      have hb6 := hJ4.t
      have d3 := hb6.cell 3
      have f3 := hb6.frozen 3
      clear hb6
      go_wp2_with fail
      refine (hc5.out _ hJ4a.rd).mono ?_
      rintro e w5 ⟨rfl, hR5, hk5⟩
      have hJ5 := hJ4a.next hR5 hk5
      clear hR5 hk5 hJ4 hJ4a hc5 d3 f3
      have hJ5a := hJ5.set_ 4 (.int .i64 (tt : Nat))
      have hb6 := hJ5.t
      have d4 := hb6.cell 4
      have f4 := hb6.frozen 4
      clear hb6
      go_wp2_with fail
      refine (hc6.out _ hJ5a.rd).mono ?_
      rintro e w6 ⟨rfl, hR6, hk6⟩
      have hJ6 := hJ5a.next hR6 hk6
      clear hR6 hk6 hJ5 hJ5a hc6 d4 f4
      have hJ6a := hJ6.set_ 5 (.int .i64 (ct : Nat))
      have hb6 := hJ6.t
      have d5 := hb6.cell 5
      have f5 := hb6.frozen 5
      clear hb6
      go_wp2_with fail
      refine (hc7.out _ hJ6a.rd).mono ?_
      rintro e w7 ⟨rfl, hR7, hk7⟩
      have hJ7 : TK W1 w7 g (.slice A b.length c) b s7 T #[.int .i64 k, nV nm, .int .i64 sz, .bool ((fl : Int) == 1), .int .i64 tt, .int .i64 ct, .slice none 0 0] := hJ6a.next hR7 hk7
      clear hR7 hk7 hJ6a hJ6 hc7 d5 f5
      go_wp2_with fail
      go_loopw [12] (fun nv wr => ∃ (j mm : Nat) (s' : St) (ac : List Mb) (mv : Value), nv = .int .i64 j ∧ j + mm = min M 65 ∧ ac.length = j ∧ memsR limR b (min M 65) s7 = (ac ++ (memsR limR b mm s').1, (memsR limR b mm s').2) ∧
        TK W1 wr g (.slice A b.length c) b s' T #[.int .i64 k, nV nm, .int .i64 sz, .bool ((fl : Int) == 1), .int .i64 tt, .int .i64 ct, mv] ∧ MsL wr W1.heap.size mv ac ∧ (¬ mv.ownBlock = some T)) (fun nv _ => 70 - (intOf nv).toNat)
      case atStart => exact ⟨0, min M 65, s7, [], .slice none 0 0, rfl, by omega, rfl, by simp, hJ7, MsL.nil _ _, by simp [Value.ownBlock]⟩
      case round =>
        clear hJ7
        obtain ⟨j, mm, s', ac, mv, rfl, hjm, hac, hms, hJ, hMb, hmT⟩ := hrel
        obtain ⟨at', bad'⟩ := s'
        have hbg := hJ.rd.blk
        have q2 := hbg.cell 2
        simp only at q2
        go_upto_region 15 with fail
        go_cut [80] (fun tv wx => tv = .bool (decide (0 < mm) && !bad') ∧ wr = wx)
        case first =>
          as_aux_lemma =>
          clear hac
          by_cases h1 : (j : Int) < M
          · by_cases h2 : (j : Int) ≤ 64
            · have hm0 : decide (0 < mm) = true := decide_eq_true (by omega)
              have HM0 := Lib.hid hm0
              clear hm0
              cases bad'
              all_goals
                go_wp2_with fail
                go_meet
                rw [HM0.out]
                exact ⟨rfl, rfl⟩
            · have hm0 : decide (0 < mm) = false := decide_eq_false (by omega)
              have HM0 := Lib.hid hm0
              clear hm0
              have h2d : decide ((j : Int) ≤ 64) = false := decide_eq_false h2
              go_wp2_with fail
              go_meet
              rw [HM0.out]
              exact ⟨rfl, rfl⟩
          · have hm0 : decide (0 < mm) = false := decide_eq_false (by omega)
            have HM0 := Lib.hid hm0
            clear hm0
            have h1d : decide ((j : Int) < M) = false := decide_eq_false h1
            go_wp2_with fail
            go_meet
            rw [HM0.out]
            exact ⟨rfl, rfl⟩
        case rest =>
        obtain ⟨htv, rfl⟩ := hcut
        have hg2 : g < wr.heap.size := hbg.lt
        by_cases hgo : 0 < mm ∧ bad' = false
        case neg =>
          have hcut2 : _ = Value.bool false := htv.trans (congrArg Value.bool (by
            cases e : bad'
            · have : ¬ 0 < mm := fun h => hgo ⟨h, e⟩
              rw [decide_eq_false this]; rfl
            · simp))
          clear htv
          subst hcut2
          have hend : memsR limR b mm (at', bad') = ([], (at', bad')) := by
            cases mm with
            | zero => rfl
            | succ mm =>
              unfold memsR
              rw [if_pos (by
                cases e : bad'
                · exact absurd ⟨Nat.succ_pos _, e⟩ hgo
                · rfl)]
          rw [hend] at hms
          have hfl1 : ((fl : Int) == 1) = (fl == 1) := by
            rw [Bool.eq_iff_iff]
            simp
            omega
          have hRR : R = (⟨k, nm, sz, fl == 1, tt, ct, ac⟩, (at', bad')) := by
            have h1 := HR.out
            rw [hms] at h1
            rw [← h1]
            simp
          have hmst := HMS.out
          rw [hRR] at hmst
          simp only at hmst
          have hms2 : typsR limR b (min N 257) s0 = ((acc ++ [⟨k, nm, sz, fl == 1, tt, ct, ac⟩]) ++ (typsR limR b m (at', bad')).1, (typsR limR b m (at', bad')).2) := by rw [hmst]; simp
          have HMS2 := Lib.hid hms2
          have HFL := Lib.hid hfl1
          clear hgo hend hms hRR hmst hms2 HR HMS hfl1
          subst hac
          clear hjm
          have hi1 : acc.length ≤ 256 := by omega
          have him2 : acc.length + 1 + m = min N 257 := by omega
          have HIM := Lib.hid him2
          subst hacc
          clear him him2
          obtain ⟨mA, mc, rfl⟩ := hMb.any
          have hbt := hJ.t
          have t0 := hbt.cell 0
          have t1 := hbt.cell 1
          have t2 := hbt.cell 2
          have t3 := hbt.cell 3
          have t4 := hbt.cell 4
          have t5 := hbt.cell 5
          have t6 := hbt.cell 6
          have hM2 := hM.kept hJ.k (fun k hk e => by omega)
          have hK2 := hK.trans hJ.k (fun k hkl e => by omega)
          obtain ⟨lA, lc, rfl⟩ := hM.any
          have hap : MbsApart wr (.slice lA acc.length lc) (.slice mA ac.length mc) ⟨k, nm, sz, fl == 1, tt, ct, ac⟩ := ⟨hMb.mbs, fun k hk => ⟨hMb.lt k hk, fun e => by
            have h1 := hMb.2 k hk
            have h2 := hM.lt k e
            omega⟩⟩
          have hmB : ∀ k, (Value.slice mA ac.length mc).ownBlock = some k → g + 1 ≤ k := fun k hk => by
            have := hMb.2 k hk
            omega
          have HNE := Lib.hid hM2.own
          have HAP := Lib.hid hap
          have HMB := Lib.hid hmB
          have htv : (#[.int .i64 k, nV nm, .int .i64 sz, .bool ((fl : Int) == 1), .int .i64 tt, .int .i64 ct, .slice mA ac.length mc] : Array Value) = tyVals ⟨k, nm, sz, fl == 1, tt, ct, ac⟩ (.slice mA ac.length mc) := by
            show _ = #[Value.int .i64 k, nV nm, .int .i64 sz, .bool (fl == 1), .int .i64 tt, .int .i64 ct, .slice mA ac.length mc]
            rw [HFL.out]
          have HTV := Lib.hid htv
          have hgs : g + 1 ≤ wr.heap.size := hJ.rd.blk.lt
          have hac : acc.length < 1073741824 := by omega
          have HSZ := Lib.hid (And.intro hac hgs)
          clear hbt hap hmB htv hgs hac HFL
          generalize (⟨k, nm, sz, fl == 1, tt, ct, ac⟩ : Ty) = ty at HMS2 HAP HTV
          go_wp2_with (at_builtin; (refine wpList_pushTM (w := wr) rfl (.tmp 95) (.tmp 97) rfl (g + 1) _ acc ty (.slice mA ac.length mc) _ HTV.out rfl rfl hM2 HAP.out HMB.out rfl HSZ.out.1 HSZ.out.2 ?_; intro v5 w5 hM5 hk5))
          have hR5 := hJ.rd.kept hk5 (fun e => by have := HNE.out g e; omega) (fun k hk e => by have h1 := hb.lt k hk; have h2 := HNE.out k e; omega)
          have hK5 := hK2.trans hk5 (fun k hkl e => by have := HNE.out k e; omega)
          exact ⟨⟨acc.length + 1, m, (at', bad'), _, by go_num, HIM.out, by simp, HMS2.out, hR5, hM5, hK5⟩, by simp [intOf]; omega⟩
        case pos =>
          as_aux_lemma =>
          obtain ⟨mm, rfl⟩ : ∃ m', mm = m' + 1 := ⟨mm - 1, by omega⟩
          obtain rfl : bad' = false := hgo.2
          have hcut2 : _ = Value.bool true := htv.trans (congrArg Value.bool (by rw [decide_eq_true (Nat.succ_pos mm)]; rfl))
          clear htv
          subst hcut2
          have hj64 : j ≤ 64 := by omega
          obtain ⟨mA, mc, rfl⟩ := hMb.any
          have hnx : memsR limR b (mm + 1) (at', false) = ((mbR limR b (at', false)).1 :: (memsR limR b mm (mbR limR b (at', false)).2).1, (memsR limR b mm (mbR limR b (at', false)).2).2) := by
            rw [memsR]
            simp
          rw [hnx] at hms
          have hmb : mbR limR b (at', false) = (⟨(nmR b (at', false)).1, (numR 2147483647 b (nmR b (at', false)).2).1, (numR 2147483647 b (numR 2147483647 b (nmR b (at', false)).2).2).1⟩, (numR 2147483647 b (numR 2147483647 b (nmR b (at', false)).2).2).2) := rfl
          clear hnx hgo HR HMS
          have e1 := Lib.hid (fun W hW => refrname_any g (.slice A b.length c) b (at', false) W hW)
          generalize nmR b (at', false) = x1 at *
          obtain ⟨nm', s1'⟩ := x1
          have e2 := Lib.hid (fun W hW => rfour_any g (.slice A b.length c) b s1' W hW)
          simp only at hmb
          generalize numR 2147483647 b s1' = x2 at *
          obtain ⟨ty', s2'⟩ := x2
          have e3 := Lib.hid (fun W hW => rfour_any g (.slice A b.length c) b s2' W hW)
          simp only at hmb
          generalize numR 2147483647 b s2' = x3 at *
          obtain ⟨bi', s3'⟩ := x3
          simp only at hmb e1 e2 e3
          rw [hmb] at hms
          simp only at hms
          have hms2 : memsR limR b (min M 65) s7 = ((ac ++ [⟨nm', ty', bi'⟩]) ++ (memsR limR b mm s3').1, (memsR limR b mm s3').2) := by rw [hms]; simp
          have HMS := Lib.hid hms2
          clear hms hms2 hmb q2 hbg
          have hac2 : (ac ++ [(⟨nm', ty', bi'⟩ : Mb)]).length = j + 1 := by simp [hac]
          have HAC := Lib.hid hac2
          have hjm2 : ac.length + 1 + mm = min M 65 := by omega
          have HJM := Lib.hid hjm2
          subst hac
          clear hac2 hjm hjm2 him hacc
          have hC0 : wr.drew.cell? ⟨T, 6, none⟩ = some (.slice mA ac.length mc) := hJ.t.cell 6
          go_wp2_with fail
          refine wp_region_mix [.w, .l, .w, .k, .w, .k, .w, .k, .w, .k, .t, .w, .t] (by kernel_rfl) (by kernel_rfl) (fun w' => w'.cell? ⟨T, 6, none⟩ = some (.slice mA ac.length mc)) ?_
          repeat (refine mix_w1 ?_; go_big_quiet_step (fail); refine wpQuiet_nil ?_)
          refine mix_load1 hC0 rfl 36 (.tmp 83) rfl naMems' ⟨T, 6, none⟩ _ rfl (fun _ h => h) ?_
          try simp only [Act.put, List.setIfInBounds_toArray, List.set_cons_succ, List.set_cons_zero]
          repeat (refine mix_w1 ?_; go_big_quiet_step (fail); refine wpQuiet_nil ?_)
          have hJd : TK W1 wr.drew g (.slice A b.length c) b (at', false) T #[.int .i64 k, nV nm, .int .i64 sz, .bool ((fl : Int) == 1), .int .i64 tt, .int .i64 ct, .slice mA ac.length mc] := ⟨⟨hJ.rd.blk, hJ.rd.by_.drew, hJ.rd.ne, hJ.rd.le, hJ.rd.few⟩, hJ.t, hJ.k.drew, hJ.gt, hJ.lt, hJ.bt⟩
          have hMd : MsL wr.drew W1.heap.size (.slice mA ac.length mc) ac := hMb.kept ((Kept.refl (fun _ => False) wr).drew) (fun _ _ h => h)
          have hMne : ∀ k, (Value.slice mA ac.length mc).ownBlock = some k → k ≠ g := fun k hk => by
            have := hMb.2 k hk
            omega
          refine mix_k hC0 fun Q' hQ' => ?_
          go_wp2_with fail
          refine (e1.out _ hJd.rd).mono ?_
          rintro e wn1 ⟨rfl, hR1, hk1⟩
          have hJ1 := hJd.next hR1 hk1
          have hM1 := hMd.kept hk1 hMne
          have hC1 : wn1.cell? ⟨T, 6, none⟩ = some (.slice mA ac.length mc) := hJ1.t.cell 6
          go_wp2_with fail
          refine hQ' _ _ hC1 ?_
          clear hQ' Q'
          try simp only [Act.put, List.setIfInBounds_toArray, List.set_cons_succ, List.set_cons_zero]
          repeat (refine mix_w1 ?_; go_big_quiet_step (fail); refine wpQuiet_nil ?_)
          refine mix_k hC1 fun Q' hQ' => ?_
          go_wp2_with fail
          refine (e2.out _ hJ1.rd).mono ?_
          rintro e wn2 ⟨rfl, hR2, hk2⟩
          have hJ2 := hJ1.next hR2 hk2
          have hM2 := hM1.kept hk2 hMne
          have hC2 : wn2.cell? ⟨T, 6, none⟩ = some (.slice mA ac.length mc) := hJ2.t.cell 6
          go_wp2_with fail
          refine hQ' _ _ hC2 ?_
          clear hQ' Q'
          try simp only [Act.put, List.setIfInBounds_toArray, List.set_cons_succ, List.set_cons_zero]
          repeat (refine mix_w1 ?_; go_big_quiet_step (fail); refine wpQuiet_nil ?_)
          refine mix_k hC2 fun Q' hQ' => ?_
          go_wp2_with fail
          refine (e3.out _ hJ2.rd).mono ?_
          rintro e wn3 ⟨rfl, hR3, hk3⟩
          have hJ3 := hJ2.next hR3 hk3
          have hM3 := hM2.kept hk3 hMne
          have hC3 : wn3.cell? ⟨T, 6, none⟩ = some (.slice mA ac.length mc) := hJ3.t.cell 6
          go_wp2_with fail
          refine hQ' _ _ hC3 ?_
          clear hQ' Q'
          try simp only [Act.put, List.setIfInBounds_toArray, List.set_cons_succ, List.set_cons_zero]
          repeat (refine mix_w1 ?_; go_big_quiet_step (fail); refine wpQuiet_nil ?_)
          refine mix_k hC3 fun Q' hQ' => ?_
          go_wp2_with fail
          have hC4 : (wn3.alloc (.cells #[nV nm', .int .i64 ty', .int .i64 bi'] 42)).cell? ⟨T, 6, none⟩ = some (.slice mA ac.length mc) := (hJ3.t.alloc _).cell 6
          refine hQ' _ _ hC4 ?_
          clear hQ' Q'
          try simp only [Act.put, List.setIfInBounds_toArray, List.set_cons_succ, List.set_cons_zero]
          refine mix_t fun Q' hQ' => ?_
          refine wpList_pushMb (w := wn3) rfl (.tmp 84) (.tmp 92) rfl W1.heap.size _ ac ⟨nm', ty', bi'⟩ _ (by rfl) rfl rfl hM3 (by omega) hJ3.k.size ?_
          intro v5 w5 hM5 hk5 hw5
          have hT5 : ¬ v5.ownBlock = some T := fun e => by
            rcases hw5 T e with e | e
            · exact hmT e
            · have := hJ3.t.lt
              omega
          have hJ5 : TK W1 w5 g (.slice A b.length c) b s3' T #[.int .i64 k, nV nm, .int .i64 sz, .bool ((fl : Int) == 1), .int .i64 tt, .int .i64 ct, .slice mA ac.length mc] :=
            ⟨hJ3.rd.kept hk5 (fun e => hMne _ e rfl) (fun k hk e => by have h1 := hM3.2 k e; have h2 := hb.lt k hk; omega), hk5.blk hmT hJ3.t, hJ3.k.trans hk5 (fun k hkl e => by have := hM3.2 k e; omega), hJ3.gt, hJ3.lt, hJ3.bt⟩
          refine hQ' _ _ ?_
          clear hQ' Q'
          try simp only [Act.put, List.setIfInBounds_toArray, List.set_cons_succ, List.set_cons_zero]
          repeat (refine mix_w1 ?_; go_big_quiet_step (fail); refine wpQuiet_nil ?_)
          have hJ6 := hJ5.set_ 6 v5
          have hM6 := hM5.kept ((Kept.refl (fun k => k = T) w5).setCell (p := ⟨T, 6, none⟩) (fun _ => rfl) v5) (fun k hk e => hT5 (by rw [hk, e]))
          have hb5 := hJ5.t
          have z6 := hb5.cell 6
          have y6 := hb5.frozen 6
          obtain ⟨nA, nc, rfl⟩ := hM5.any
          have hln : (ac ++ [(⟨nm', ty', bi'⟩ : Mb)]).length = ac.length + 1 := by simp
          rw [hln] at hJ6 hM6 hT5 ⊢
          clear hln
          refine mix_t fun Q' hQ' => ?_
          go_wp2_with fail
          refine mix_done ?_
          go_wp2_with fail
          exact ⟨⟨ac.length + 1, mm, s3', _, _, by go_num, HJM.out, HAC.out, HMS.out, hJ6, hM6, hT5⟩, by simp [intOf]; omega⟩

end Go.Proofs.YtmgdjiplpfeoiaaDoor
