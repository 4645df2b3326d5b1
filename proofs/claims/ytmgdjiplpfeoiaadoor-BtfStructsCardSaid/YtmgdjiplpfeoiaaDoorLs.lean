import Derived.Test.YtmgdjiplpfeoiaaDoorPc
import Derived.Test.YtmgdjiplpfeoiaaDoorTi
import Derived.Test.YtmgdjiplpfeoiaaDoorTu
import Derived.Test.YtmgdjiplpfeoiaaDoorTt
import Derived.Outline
set_option linter.unusedSimpArgs false
set_option linter.unusedVariables false
namespace Go.Proofs.YtmgdjiplpfeoiaaDoor
open Go.RowKit

theorem let_ext : ∀ i, i < 52 → (ByteArray.mk lettersL.toArray).extract i (i + 1) = ⟨(letL i).toArray⟩ := by decide +kernel
theorem let_way : ∀ i, i < 52 → (!(46 :: letL i == (ByteArray.mk #[46] ++ (ByteArray.mk lettersL.toArray).extract i (i + 1)).toList)) = false := by decide +kernel
theorem infoMb : (Tryd.prog.info? 42).map (fun i => (i.zero, i.size, i.bytes)) = some (some (.agg #[nV [], .int .i64 0, .int .i64 0]), 3, 32) := by kernel_rfl
theorem naMbs : ∀ w, (isAgg 36).run Tryd.prog w = .ok false w := fun _ => by kernel_rfl
theorem mbs_of_sg {w : World} {ms : List Mb} {v : Value} (h : Sg w 42 3 v (ms.map mbCells)) : Mbs w v ms := by
  rcases h.shape with ⟨rfl, hn⟩ | ⟨g, cap, rfl, hc, hg⟩
  · have : ms = [] := by simpa using hn
    subst this
    exact Mbs.nil w
  · simp only [List.length_map] at hc h ⊢
    refine ⟨_, _, rfl, fun i m hm => ⟨g, 0, rfl, hg, fun k u hu => ?_⟩⟩
    have hk : k < 3 := (List.getElem?_eq_some_iff.1 hu).1
    have := h.cell (i := i) (c := mbCells m) (by simp [hm]) hk
    rw [Nat.zero_add, this]
    exact hu
theorem remd (u : UInt8) (W : World) : (binOp .rem 5 (.int .u8 (u.toNat : Int)) (.int .u8 4)).run Tryd.prog W = .ok (.int .u8 ((u.toNat : Int) % 4)) W := by
  have hu := u.toNat_lt
  have h1 : (u.toNat : Int).tmod 4 = (u.toNat : Int) % 4 := Int.tmod_eq_emod_of_nonneg (by omega)
  have h2 : ((u.toNat : Int) % 4) < 256 := by omega
  have h3 : 0 ≤ ((u.toNat : Int) % 4) := by omega
  simp [binOp, Op.intDiv, h1, go_sem]
def stV (s d : Int) (n : Nat) (mv : Value) : Array Value := #[.int .i64 4, nV [115], .int .i64 ((n : Int) * d), .bool false, .int .i64 0, .int .i64 0, mv]

set_option maxHeartbeats 2000000 in
set_option maxRecDepth 100000 in
theorem walk_structs (n gp : Int) (u : UInt8) (w : World) :
    Calls Tryd.prog 7 #[.int .i64 n, .int .u8 (u.toNat : Int), .int .i64 gp] w fun e w' => e = .returned (.bool true) ∧ Kept (fun _ => False) w w' := by
  by_cases h1 : n < 1
  · go_enter Tryd.func7, Tryd.ntmps7
    go_wp2_with fail
    refine (known_any w).mono ?_
    rintro e w1 ⟨rfl, hk1⟩
    go_wp2_with fail
    go_ret
    exact ⟨rfl, hk1⟩
  by_cases h40 : 40 < n
  · go_enter Tryd.func7, Tryd.ntmps7
    go_wp2_with fail
    refine (known_any w).mono ?_
    rintro e w1 ⟨rfl, hk1⟩
    go_wp2_with fail
    go_ret
    exact ⟨rfl, hk1⟩
  by_cases hg0 : gp < 0
  · go_enter Tryd.func7, Tryd.ntmps7
    go_wp2_with fail
    refine (known_any w).mono ?_
    rintro e w1 ⟨rfl, hk1⟩
    go_wp2_with fail
    go_ret
    exact ⟨rfl, hk1⟩
  by_cases hg8 : 8 < gp
  · go_enter Tryd.func7, Tryd.ntmps7
    go_wp2_with fail
    refine (known_any w).mono ?_
    rintro e w1 ⟨rfl, hk1⟩
    go_wp2_with fail
    go_ret
    exact ⟨rfl, hk1⟩
  obtain ⟨N, rfl⟩ : ∃ N : Nat, n = (N : Int) := ⟨n.toNat, by omega⟩
  have hu := u.toNat_lt
  obtain ⟨s, hs, hpow⟩ : ∃ s : Int, (s = 1 ∨ s = 2 ∨ s = 4 ∨ s = 8) ∧ wrap64 ((2 : Int) ^ (u.toNat % 4)) = s := by
    rcases (show u.toNat % 4 = 0 ∨ u.toNat % 4 = 1 ∨ u.toNat % 4 = 2 ∨ u.toNat % 4 = 3 by omega) with h | h | h | h
    · exact ⟨1, by omega, by rw [h]; first | decide +kernel | rfl | (simp [wrap64])⟩
    · exact ⟨2, by omega, by rw [h]; first | decide +kernel | rfl | (simp [wrap64])⟩
    · exact ⟨4, by omega, by rw [h]; first | decide +kernel | rfl | (simp [wrap64])⟩
    · exact ⟨8, by omega, by rw [h]; first | decide +kernel | rfl | (simp [wrap64])⟩
  have hs1 : 1 ≤ s := by omega
  have hs8 : s ≤ 8 := by omega
  have hmr := mul_range (n := N) (d := s + gp) (by omega) (by omega) (Nat.le_refl N) (by omega)
  have hm0 := hmr.1
  have hm1 := hmr.2.2
  have HS := Lib.hid hs
  have HPOW := Lib.hid hpow
  clear hs hmr
  go_enter Tryd.func7, Tryd.ntmps7
  go_wp2_with fail
  refine (known_any w).mono ?_
  rintro e w1 ⟨rfl, hk1⟩
  go_wp2_with fail
  clear hpow hu
  rw [HPOW.out]
  clear HPOW
  have hB0 := Blk.new w1 38 (stV s (s + gp) N (.slice none 0 0))
  have hk1s := hk1.size
  have hkA := hk1.alloc (.cells (stV s (s + gp) N (.slice none 0 0)) 38)
  have hS0 : Sg (w1.alloc (.cells (stV s (s + gp) N (.slice none 0 0)) 38)) 42 3 (.slice none 0 0) ((sMs (s + gp) 0).map mbCells) := Sg.nil _ _ _
  obtain ⟨G, hG⟩ : ∃ G, G = w1.heap.size := ⟨_, rfl⟩
  rw [← hG] at hB0 ⊢
  have hGw : w.heap.size ≤ G := by omega
  have HG := Lib.hid hG
  clear hG
  go_loopw [10] (fun iv wr => ∃ (i : Nat) (mv : Value), iv = .int .i64 i ∧ i ≤ N ∧ Blk wr G 38 (stV s (s + gp) N mv) ∧ Sg wr 42 3 mv ((sMs (s + gp) i).map mbCells) ∧ (∀ g, mv.ownBlock = some g → w.heap.size ≤ g ∧ g ≠ G) ∧ Kept (fun _ => False) w wr) (fun iv _ => N - (intOf iv).toNat)
  case atStart => exact ⟨0, .slice none 0 0, rfl, Nat.zero_le _, hB0, hS0, fun g hg => by simp [Value.ownBlock] at hg, hkA⟩
  case round =>
    clear hkA hB0 hS0 hk1 hk1s
    obtain ⟨i, mv, rfl, hi, hB, hS, hown, hK⟩ := hrel
    have hlen : ((sMs (s + gp) i).map mbCells).length = i := by rw [List.length_map, sMs_len]
    obtain ⟨mA, mC, hmv⟩ := hS.any
    rw [hlen] at hmv
    subst hmv
    by_cases hlt : i < N
    case neg =>
      obtain rfl : i = N := by omega
      have cc0 : wr.cell? ⟨G, 0, none⟩ = some (.int .i64 4) := hB.cell 0
      have cc1 : wr.cell? ⟨G, 1, none⟩ = some (nV [115]) := hB.cell 1
      have cc2 : wr.cell? ⟨G, 2, none⟩ = some (.int .i64 ((i : Int) * (s + gp))) := hB.cell 2
      have cc3 : wr.cell? ⟨G, 3, none⟩ = some (.bool false) := hB.cell 3
      have cc4 : wr.cell? ⟨G, 4, none⟩ = some (.int .i64 0) := hB.cell 4
      have cc5 : wr.cell? ⟨G, 5, none⟩ = some (.int .i64 0) := hB.cell 5
      have cc6 : wr.cell? ⟨G, 6, none⟩ = some (.slice mA i mC) := hB.cell 6
      go_wp2_with fail
      have hgs : s ≤ s + gp := by omega
      have hg16 : s + gp ≤ 16 := by omega
      have hraw := raw_s (s := s) (n := i) (d := s + gp) (by omega) hg16 (by omega)
      have hszr := s_sizeR (n := i) HS.out hgs hg16 (by omega)
      have hna : ∀ t ∈ sL s (s + gp) i, t.kind ≠ 3 := fun t ht => by
        simp [sL] at ht
        rcases ht with rfl | rfl
        · simp [uT]
        · simp [sT]
      obtain ⟨W2, hW2⟩ : ∃ W2, wr.alloc (.cells #[.int .i64 1, .string { data := #[117, 110, 105, 116] }, .int .i64 s, .bool false, .int .i64 0, .int .i64 0, .slice none 0 0, .int .i64 4, nV [115], .int .i64 ((i : Int) * (s + gp)), .bool false, .int .i64 0, .int .i64 0, .slice mA i mC] 38) = W2 := ⟨_, rfl⟩
      rw [hW2]
      have hKa : Kept (fun _ => False) wr W2 := by rw [← hW2]; exact (Kept.refl _ wr).alloc _
      have hTy : Tys W2 (.slice (some ⟨wr.heap.size, 0, none⟩) (sL s (s + gp) i).length 2) (sL s (s + gp) i) := by
        refine Tys.ofBlk (mvs := [.slice none 0 0, .slice mA i mC]) (cs := #[.int .i64 1, .string { data := #[117, 110, 105, 116] }, .int .i64 s, .bool false, .int .i64 0, .int .i64 0, .slice none 0 0, .int .i64 4, nV [115], .int .i64 ((i : Int) * (s + gp)), .bool false, .int .i64 0, .int .i64 0, .slice mA i mC]) (by rw [← hW2]; exact Blk.new _ _ _) rfl (by simp [sL]) rfl rfl ?_
        intro j t v ht hv
        match j, ht, hv with
        | 0, ht, hv => cases ht; cases hv; exact Mbs.nil _
        | 1, ht, hv => cases ht; cases hv; exact (mbs_of_sg hS).kept hKa
        | j + 2, ht, hv => simp [sL] at ht
      obtain ⟨G2, hG2⟩ : ∃ G2, wr.heap.size = G2 := ⟨_, rfl⟩
      rw [hG2] at hTy ⊢
      have hc2 : W2.cell? ⟨G, 2, none⟩ = some (.int .i64 ((i : Int) * (s + gp))) := by rw [hKa.cell (p := ⟨G, 2, none⟩) hB.lt (fun h => h)]; exact hB.cell 2
      have hGlt : G < W2.heap.size := Nat.lt_of_lt_of_le hB.lt hKa.size
      have hK2 : Kept (fun _ => False) w W2 := hK.trans hKa (fun _ _ h => h)
      clear hW2 cc0 cc1 cc2 cc3 cc4 cc5 cc6 hKa hB hS hK hown hG2 hlen
      go_loopw [12] (fun iv wr2 => ∃ o : Nat, iv = .int .i64 o ∧ (o : Int) ≤ (i : Int) * (s + gp) ∧ Kept (fun _ => False) W2 wr2) (fun iv _ => ((i : Int) * (s + gp) - intOf iv).toNat)
      case atStart => exact ⟨0, rfl, by omega, Kept.refl _ _⟩
      case round =>
        obtain ⟨o, rfl, ho, hK3⟩ := hrel
        have hc3 : wr.cell? ⟨G, 2, none⟩ = some (.int .i64 ((i : Int) * (s + gp))) := by rw [hK3.cell (p := ⟨G, 2, none⟩) hGlt (fun h => h)]; exact hc2
        clear hc2
        have hT3 := hTy.kept hK3
        by_cases hlt : (o : Int) < (i : Int) * (s + gp)
        case neg =>
          obtain hoe : (o : Int) = (i : Int) * (s + gp) := by omega
          have hFB := Lib.hid (field_bad (sL s (s + gp) i) (some ⟨G2, 0, none⟩) 2 2 ((i : Int) * (s + gp)) 1 wr hT3 hraw (by rw [hszr]) (by omega) (.inr (.inr (.inr (by rw [hszr]; simp only; omega)))))
          have hlt2 : decide ((o : Int) < (i : Int) * (s + gp)) = false := decide_eq_false hlt
          clear hoe hlt
          go_wp2_with fail
          refine hFB.out.mono ?_
          rintro e w3 ⟨rfl, hk3⟩
          go_wp2_with fail
          go_ret
          exact ⟨rfl, (hK2.trans hK3 (fun _ _ h => h)).trans hk3 (fun _ _ h => h)⟩
        case pos =>
          obtain ⟨k, hk⟩ : ∃ k : Nat, (o : Int) / (s + gp) = (k : Int) := ⟨((o : Int) / (s + gp)).toNat, by have := Int.ediv_nonneg (show (0 : Int) ≤ (o : Int) by omega) (show 0 ≤ s + gp by omega); omega⟩
          obtain ⟨r, hr⟩ : ∃ r : Int, (o : Int) % (s + gp) = r := ⟨_, rfl⟩
          have hr0 : 0 ≤ r := by rw [← hr]; exact Int.emod_nonneg _ (by omega)
          have hrd : r < s + gp := by rw [← hr]; exact Int.emod_lt_of_pos _ (by omega)
          have hdo : (o : Int) = (k : Int) * (s + gp) + r := by
            have := Int.mul_ediv_add_emod (o : Int) (s + gp)
            rw [hk, hr, Int.mul_comm] at this
            exact this.symm
          have hki : k < i := by
            have h1 : (k : Int) * (s + gp) < (i : Int) * (s + gp) := by omega
            have := Int.lt_of_mul_lt_mul_right h1 (by omega)
            omega
          have hf := s_field HS.out hgs hg16 (by omega) k r hdo hr0 hrd hki
          have hFN := Lib.hid (field_noarr (sL s (s + gp) i) (some ⟨G2, 0, none⟩) 2 2 (o : Int) 1 wr hT3 hraw hna (.inl rfl) (by rw [hszr]) (by omega) (by rw [hszr]; simp only; omega) (by rw [hszr]; simp only; omega))
          rw [hf] at hFN
          have HDO := Lib.hid hdo
          clear hf hdo
          by_cases hrs : r < s
          · rw [if_pos hrs] at hFN
            go_wp2_with fail
            refine hFN.out.mono ?_
            rintro e w3 ⟨rfl, hk3⟩
            go_wp2_with fail
            · rename_i hne
              exact Bool.noConfusion (hne.symm.trans (let_way k (by omega)))
            · exact ⟨⟨o + 1, by go_num, by omega, hK3.trans hk3 (fun _ _ h => h)⟩, by simp [intOf]; omega⟩
          · rw [if_neg hrs] at hFN
            go_wp2_with fail
            refine hFN.out.mono ?_
            rintro e w3 ⟨rfl, hk3⟩
            go_wp2_with fail
            exact ⟨⟨o + 1, by go_num, by omega, hK3.trans hk3 (fun _ _ h => h)⟩, by simp [intOf]; omega⟩
    case pos =>
      have hmi := mul_range (n := N) (d := s + gp) (by omega) (by omega) (k := i) (by omega) (by omega)
      have e8 : 8 * (i : Int) * (s + gp) = 8 * ((i : Int) * (s + gp)) := by rw [Int.mul_assoc]
      have hq0 : 0 ≤ 8 * (i : Int) * (s + gp) := by omega
      have hq1 : 8 * (i : Int) * (s + gp) ≤ 5120 := by omega
      obtain ⟨i0, hI0, hI1, hI2, hI3⟩ := info_parts infoMb
      have hcs : [.string ((ByteArray.mk lettersL.toArray).extract i (i + 1)), .int .i64 1, .int .i64 (8 * (i : Int) * (s + gp))] = mbCells (sMb (s + gp) i) := by rw [let_ext i (by omega)]; rfl
      have hnx : (sMs (s + gp) (i + 1)).map mbCells = (sMs (s + gp) i).map mbCells ++ [mbCells (sMb (s + gp) i)] := by rw [sMs_next, List.map_append]; rfl
      have HL := Lib.hid hlen
      have HCS := Lib.hid hcs
      have HNX := Lib.hid hnx
      have hc6 : wr.cell? ⟨G, 6, none⟩ = some (.slice mA i mC) := hB.cell 6
      clear hmi e8 hlen hcs hnx
      go_wp2_with fail
      refine wp_region_mix [.w, .l, .w, .w, .w, .w, .w, .w, .w, .w, .w, .w, .w, .w, .k, .t, .w, .t] (by kernel_rfl) (by kernel_rfl) (fun w' => Blk w' G 38 (stV s (s + gp) N (.slice mA i mC))) ?_
      repeat (refine mix_w1 ?_; go_big_quiet_step (fail); refine wpQuiet_nil ?_)
      refine mix_load1 hB.drew rfl 36 (.tmp 48) rfl naMbs ⟨G, 6, none⟩ (.slice mA i mC) (by simp [Act.eval]) (fun w' hw' => by have h9 := Blk.cell hw' 6; exact h9) ?_
      simp only [Act.put, List.setIfInBounds_toArray, List.set_cons_succ, List.set_cons_zero]
      repeat (refine mix_w1 ?_; go_big_quiet_step (fail); refine wpQuiet_nil ?_)
      refine mix_k hB.drew fun Q' hQ' => ?_
      go_wp2_with fail
      refine hQ' _ _ (hB.drew.alloc _) ?_
      clear hQ' Q'
      refine mix_t fun Q' hQ' => ?_
      go_wp2_with (at_builtin; refine wpList_pushG (w := wr.drew) rfl (.tmp 49) (.tmp 62) 36 rfl Tryd.underlying36 hI0 hI1 hI2 hI3 rfl (by omega) (.slice mA i mC) ((sMs (s + gp) i).map mbCells) [.string ((ByteArray.mk lettersL.toArray).extract i (i + 1)), .int .i64 1, .int .i64 (8 * (i : Int) * (s + gp))] rfl rfl hS rfl (by simp [Value.oneCell']) (by rw [HL.out]; omega) (by omega) ?_; intro g5 cap5 w5 hS5 hk5 hg5; rw [HL.out] at hS5 ⊢; rw [HCS.out, ← HNX.out] at hS5; have hB5 : Blk w5 G 38 (stV s (s + gp) N (.slice mA i mC)) := hk5.blk (fun e => (hown _ e).2 rfl) hB.drew)
      have hK5 : Kept (fun _ => False) w w5 := (hK.drew).trans hk5 (fun k hk e => by have := (hown k e).1; omega)
      have hg5G : g5 ≠ G := fun e => by
        subst e
        rcases hg5 with h | h
        · exact (hown _ h).2 rfl
        · have := hB.lt
          have e9 : wr.drew.heap.size = wr.heap.size := rfl
          omega
      have hg5w : w.heap.size ≤ g5 := by
        rcases hg5 with h | h
        · exact (hown _ h).1
        · have := hK.size
          have e9 : wr.drew.heap.size = wr.heap.size := rfl
          omega
      have hf6 : w5.frozen? ⟨G, 6, none⟩ = false := hB5.frozen 6
      have hc56 := hB5.cell 6
      repeat (refine mix_w1 ?_; go_big_quiet_step (fail); refine wpQuiet_nil ?_)
      refine mix_t fun Q' hQ' => ?_
      go_wp2_with fail
      refine mix_done ?_
      have hB6 : Blk (w5.setCell ⟨G, 6, none⟩ (.slice (some ⟨g5, 0, none⟩) (i + 1) cap5)) G 38 (stV s (s + gp) N (.slice (some ⟨g5, 0, none⟩) (i + 1) cap5)) := hB5.set_ 6 _
      have hS6 := hS5.kept ((Kept.refl (fun k => k = G) w5).setCell (p := ⟨G, 6, none⟩) (fun _ => rfl) (.slice (some ⟨g5, 0, none⟩) (i + 1) cap5)) (fun g hg e => by
        simp only [Value.ownBlock, Option.some.injEq] at hg
        omega)
      have hK6 : Kept (fun _ => False) w (w5.setCell ⟨G, 6, none⟩ (.slice (some ⟨g5, 0, none⟩) (i + 1) cap5)) := hK5.setCell (fun h => by
        have h : G < w.heap.size := h
        omega) _
      clear hc56 hf6
      go_wp2_with fail
      go_roundw
      case rel => exact ⟨i + 1, .slice (some ⟨g5, 0, none⟩) (i + 1) cap5, by go_num, by omega, hB6, hS6, fun g hg => by simp only [Value.ownBlock, Option.some.injEq] at hg; omega, hK6⟩
      case measure => simp [intOf]; omega

end Go.Proofs.YtmgdjiplpfeoiaaDoor
