import Derived.Test.YtahabogjfcdjkaaGreatDl
import Derived.Test.YtahabogjfcdjkaaGreatDh
set_option linter.unusedSimpArgs false
set_option linter.unusedVariables false
namespace Go.Proofs.YtahabogjfcdjkaaGreat
open Go.RowKit

/-! ### the program's Set, Prog, Live; what is told where there is nothing -/
theorem Mp.setP {w : World} {x : Loc} {S : MS} {L : List Rg} (h : Mp w x S L) {i : Nat} (hi : i < S.progs.length) (p : Int) {g n c : Nat} (hv : x.pv = .slice (some ⟨g, 0, none⟩) n c) : Mp (w.setCell ⟨g, i, none⟩ (.int .i64 p)) x { S with progs := S.progs.set i p } L := by
  have hk : Kept (fun k => k = g) w (w.setCell ⟨g, i, none⟩ (.int .i64 p)) := Kept.setCell (F := fun k => k = g) (Kept.refl _ w) (fun _ => rfl) _
  have hg : x.pv.ownBlock = some g := by rw [hv]; rfl
  obtain ⟨d1, d2, d3⟩ := h.dp g hg
  refine ⟨hk.blk (fun e => d2 e.symm) h.blk, h.map.kept hk (fun e => d3 e.symm), ?_, h.mem.kept hk (fun k hk e => d1 (by rw [← e]; exact hk)), h.dq, h.dm, h.dp, h.ids, h.few⟩
  have hp := h.prog
  rw [hv] at hp ⊢
  have := Sl.setCell hp (i := i) (c := pcell S.progs[i]) (by rw [List.getElem?_map, List.getElem?_eq_getElem hi]; rfl) (k := 0) (by omega) (.int .i64 p)
  simp only [pcell, List.set_cons_zero, Nat.mul_one, Nat.add_zero] at this
  show Sl _ _ _ _ ((S.progs.set i p).map pcell)
  rw [List.map_set]
  exact this
set_option maxHeartbeats 1000000 in
theorem mset_any (x : Loc) (S : MS) (L : List Rg) (i p : Int) (w : World) (h : Mp w x S L) (hfp : S.progs.length ≤ 100000) :
    Calls Tryz.prog 26 #[.pointer (some ⟨x.q, 0, none⟩), .int .i64 i, .int .i64 p] w fun e w' => e = .returned (.int .i64 (setC S i p)) ∧ Mp w' x (setS S i p) L ∧ Kept (fun k => x.pv.ownBlock = some k) w w' := by
  have hb := h.blk.cell
  simp only [MS.cells] at hb
  obtain ⟨pA, pC, hpv⟩ := Sl.any h.prog
  rw [List.length_map] at hpv
  unfold setS
  by_cases h3 : S.d.kind = 3
  case neg =>
    have hs : setC S i p = 95 := if_pos h3
    rw [hs, if_neg (by decide)]
    have e3 : (S.d.kind != 3) = true := by simpa using h3
    have HH := Lib.hid h
    clear h h3 hs hpv
    go_enter Tryz.func26, Tryz.ntmps26
    go_wp2_with fail
    go_ret
    exact ⟨rfl, HH.out, Kept.refl _ w⟩
  case pos =>
  rw [h3] at hb
  by_cases hi : i < 0 ∨ (S.progs.length : Int) ≤ i ∨ p < -1
  case pos =>
    have hs : setC S i p = 91 := by unfold setC; rw [if_neg (fun e => e h3), if_pos hi]
    rw [hs, if_neg (by decide)]
    have HH := Lib.hid h
    rw [hpv] at hb
    clear h h3 hs hpv
    by_cases h1 : i < 0
    · have d1 : decide (i < 0) = true := decide_eq_true h1
      clear hi h1
      go_enter Tryz.func26, Tryz.ntmps26
      go_wp2_with fail
      go_ret
      exact ⟨rfl, HH.out, Kept.refl _ w⟩
    · have d1 : decide (i < 0) = false := decide_eq_false h1
      by_cases h2 : (S.progs.length : Int) ≤ i
      · have d2 : decide (i ≥ (S.progs.length : Int)) = true := decide_eq_true h2
        have d2' : decide ((S.progs.length : Int) ≤ i) = true := decide_eq_true h2
        clear hi h1 h2
        go_enter Tryz.func26, Tryz.ntmps26
        go_wp2_with fail
        go_ret
        exact ⟨rfl, HH.out, Kept.refl _ w⟩
      · have d2 : decide (i ≥ (S.progs.length : Int)) = false := decide_eq_false h2
        have d2' : decide ((S.progs.length : Int) ≤ i) = false := decide_eq_false h2
        have d3 : decide (p < -1) = true := decide_eq_true (by omega)
        clear hi h1 h2
        go_enter Tryz.func26, Tryz.ntmps26
        go_wp2_with fail
        go_ret
        exact ⟨rfl, HH.out, Kept.refl _ w⟩
  case neg =>
  have hs : setC S i p = 0 := by unfold setC; rw [if_neg (fun e => e h3), if_neg hi]
  rw [hs, if_pos rfl]
  obtain ⟨n, rfl⟩ : ∃ n : Nat, i = n := ⟨i.toNat, by omega⟩
  have hn : n < S.progs.length := by omega
  obtain ⟨g, cap, hv, hcap, hgl⟩ := Sl.some_ h.prog (by rw [List.length_map]; omega)
  rw [List.length_map] at hv
  rw [hv] at hb
  have hp := h.prog
  rw [hv] at hp
  have hc := Sl.cell hp (i := n) (c := pcell S.progs[n]) (by rw [List.getElem?_map, List.getElem?_eq_getElem hn]; rfl) (k := 0) (by omega)
  simp only [pcell, Nat.mul_one, Nat.add_zero] at hc
  have hf := Sl.frozen hp n
  have d1 : decide ((n : Int) < 0) = false := decide_eq_false (by omega)
  have d2 : decide ((n : Int) ≥ (S.progs.length : Int)) = false := decide_eq_false (by omega)
  have d2' : decide ((S.progs.length : Int) ≤ (n : Int)) = false := decide_eq_false (by omega)
  have d3 : decide (p < -1) = false := decide_eq_false (by omega)
  have HF := Lib.hid (h.setP hn p hv)
  have HV := Lib.hid hv
  clear h h3 hi hs hpv hp hv
  go_enter Tryz.func26, Tryz.ntmps26
  go_wp2_with fail
  go_ret
  exact ⟨rfl, HF.out, Kept.setCell (F := fun k => x.pv.ownBlock = some k) (Kept.refl _ w) (fun _ => by rw [HV.out]; rfl) _⟩
set_option maxHeartbeats 1000000 in
theorem mprog_any (x : Loc) (S : MS) (L : List Rg) (i : Int) (w : World) (h : Mp w x S L) (hfp : S.progs.length ≤ 100000) (hi0 : 0 ≤ i ∧ i < 18446744073709551616) :
    Calls Tryz.prog 28 #[.pointer (some ⟨x.q, 0, none⟩), .int .u64 i] w fun e w' => e = .returned (.tuple #[.int .i64 ((prgO S i).getD 0), .bool (prgO S i).isSome]) ∧ w = w' := by
  have hb := h.blk.cell
  simp only [MS.cells] at hb
  obtain ⟨pA, pC, hpv⟩ := Sl.any h.prog
  rw [List.length_map] at hpv
  have hwr : (S.progs.length : Int) % 18446744073709551616 = S.progs.length := by omega
  unfold prgO
  by_cases h1 : (S.progs.length : Int) ≤ i
  case pos =>
    rw [if_pos h1]
    rw [hpv] at hb
    have d1 : decide (i ≥ (S.progs.length : Int)) = true := decide_eq_true h1
    have d1' : decide ((S.progs.length : Int) ≤ i) = true := decide_eq_true h1
    clear h h1 hpv
    go_enter Tryz.func28, Tryz.ntmps28
    go_wp2_with fail
    go_ret2
    exact ⟨rfl, rfl⟩
  case neg =>
  rw [if_neg h1]
  obtain ⟨n, rfl⟩ : ∃ n : Nat, i = n := ⟨i.toNat, by omega⟩
  rw [Int.toNat_natCast]
  have hn : n < S.progs.length := by omega
  obtain ⟨g, cap, hv, hcap, hgl⟩ := Sl.some_ h.prog (by rw [List.length_map]; omega)
  rw [List.length_map] at hv
  rw [hv] at hb
  have hp := h.prog
  rw [hv] at hp
  have hc := Sl.cell hp (i := n) (c := pcell (S.progs.getD n 0)) (by rw [List.getElem?_map, List.getD_eq_getElem?_getD, List.getElem?_eq_getElem hn]; rfl) (k := 0) (by omega)
  simp only [pcell, Nat.mul_one, Nat.add_zero] at hc
  have d1 : decide ((n : Int) ≥ (S.progs.length : Int)) = false := decide_eq_false h1
  have d1' : decide ((S.progs.length : Int) ≤ (n : Int)) = false := decide_eq_false h1
  generalize hPP : S.progs.getD n 0 = P at *
  have hc2 : w.cell? ⟨g, n, none⟩ = some (.int .i64 P) := by simpa using hc
  clear h hpv hp hv hPP hc
  by_cases h2 : P < 0
  · rw [if_pos h2]
    have d2 : decide (P < 0) = true := decide_eq_true h2
    clear h2 h1
    go_enter Tryz.func28, Tryz.ntmps28
    go_wp2_with fail
    go_ret2
    exact ⟨rfl, rfl⟩
  · rw [if_neg h2]
    have d2 : decide (P < 0) = false := decide_eq_false h2
    clear h2 h1
    go_enter Tryz.func28, Tryz.ntmps28
    go_wp2_with fail
    go_ret2
    exact ⟨rfl, rfl⟩

set_option maxHeartbeats 400000 in
theorem mkeys_no (x : Loc) (S : MS) (L : List Rg) (w : World) (h : Mp w x S L) (h3 : S.d.kind = 3) :
    Calls Tryz.prog 36 #[.pointer (some ⟨x.q, 0, none⟩)] w fun e w' => e = .returned (.tuple #[.slice none 0 0, .int .i64 95]) ∧ w = w' := by
  have hb := h.blk.cell
  simp only [MS.cells] at hb
  rw [h3] at hb
  clear h h3
  go_enter Tryz.func36, Tryz.ntmps36
  go_wp2_with fail
  go_ret2
  exact ⟨rfl, rfl⟩
set_option maxHeartbeats 4000000 in
set_option maxRecDepth 100000 in
theorem mkey_no (x : Loc) (S : MS) (L : List Rg) (id : Int) (w : World) (h : Mp w x S L) (hno : ∀ y ∈ S.ent, y.2 ≠ id) :
    Calls Tryz.prog 30 #[.pointer (some ⟨x.q, 0, none⟩), .int .i64 id] w fun e w' => e = .returned (.tuple #[.slice none 0 0, .bool false]) ∧ Kept (fun _ => False) w w' := by
  have hb0 := h.blk.cell
  simp only [MS.cells] at hb0
  obtain ⟨es, clock, hes, heq, hst⟩ := h.map
  have hrg := run_range_map (P := Tryz.prog) w 58 9 3 x.m es clock Tryz.underlying58 hes
  have hlt := h.map.lt
  have HNO := Lib.hid hno
  clear hno
  go_enter Tryz.func30, Tryz.ntmps30
  go_wp2_with fail
  go_loopw [6] (fun _ wr => ∃ seen : Array Nat, wr.heap[w.heap.size]? = some (.mapIter (some x.m) clock seen clock) ∧ Kept (fun _ => False) w wr) (fun _ wr => (leftOf es (wr.iterSeen w.heap.size)).size)
  case atStart => exact ⟨#[], heap_alloc_new w _, (Kept.refl _ w).alloc _⟩
  case round =>
    obtain ⟨seen, hit, hK⟩ := hrel
    have hes' : wr.heap[x.m]? = some (.map es clock) := hK.heap (fun h => h) hes
    rcases run_next_it (P := Tryz.prog) hit hes' hst with ⟨h0, hnx⟩ | ⟨e, he, w1, hk1, hit1, hnx⟩
    · go_wp2_with fail
      go_ret2
      exact ⟨rfl, hK⟩
    · have hm := mem_left he
      obtain ⟨y, hy, hkey, hval⟩ := entry_key heq hm.1
      unfold MS.vals at hy
      obtain ⟨z, hz, rfl⟩ := List.mem_map.1 hy
      simp only at hkey hval
      have hes1 : w1.heap[x.m]? = some (.map es clock) := hk1.heap (fun e => by omega) hes'
      have hen := run_entry_it (P := Tryz.prog) hit1 hes1 hst hm.1
      have hmeas := left_shrinks es _ e he
      rw [hkey, hval] at hnx hen
      have hK1 := hK.trans hk1 (fun k hk e => by omega)
      have hid' : (z.2 == id) = false := by simpa using HNO.out z hz
      go_wp2_with fail
      go_roundw
      case rel => exact ⟨seen.push e.born, hit1, hK1⟩
      case measure =>
        rw [iterSeen_of hit, iterSeen_of hit1]
        exact hmeas
/-! ### barbicanhelp -/
set_option maxHeartbeats 400000 in
theorem hbytes_any (a b : Value) (l k : List UInt8) (w : World) (ha : By w a l) (hb : By w b k) :
    Calls Tryz.prog 13 #[a, b] w fun e w' => e = .returned (.bool (l == k)) ∧ w = w' := by
  have h1 : (convert 39 9 a).run Tryz.prog w = .ok (sV l) w := ha.conv Tryz.underlying39 Tryz.underlying5 Tryz.underlying9
  have h2 : (convert 39 9 b).run Tryz.prog w = .ok (sV k) w := hb.conv Tryz.underlying39 Tryz.underlying5 Tryz.underlying9
  have h3 := run_eqlS (P := Tryz.prog) 9 l k
  have h4 := fun x y => guardS (P := Tryz.prog) .eql 9 x y l k
  go_enter Tryz.func13, Tryz.ntmps13
  go_wp2_with fail
  go_ret
  exact ⟨rfl, rfl⟩
set_option maxHeartbeats 1000000 in
set_option maxRecDepth 100000 in
theorem spoil_any (v : Value) (l : List UInt8) (w : World) (h : Bs w v l) (hl : l.length ≤ 1000000) :
    Calls Tryz.prog 32 #[v] w fun e w' => e = .returned (.tuple #[]) ∧ Kept (fun k => v.ownBlock = some k) w w' := by
  have HH := Lib.hid h
  obtain ⟨A, c, rfl⟩ := h.any
  rw [List.length_map] at *
  clear h
  go_enter Tryz.func32, Tryz.ntmps32
  go_wp2_with fail
  go_loopw [2] (fun iv wr => ∃ (i : Nat) (l' : List UInt8), iv = .int .i64 i ∧ i ≤ l.length ∧ l'.length = l.length ∧ Bs wr (.slice A l.length c) l' ∧ Kept (fun k => (Value.slice A l.length c).ownBlock = some k) w wr) (fun iv _ => l.length - (intOf iv).toNat)
  case atStart => exact ⟨0, l, rfl, by omega, rfl, HH.out, Kept.refl _ w⟩
  case round =>
  clear HH
  obtain ⟨i, l', rfl, hi, hl', hB, hK⟩ := hrel
  have HB := Lib.hid hB
  have HK := Lib.hid hK
  have HL := Lib.hid hl'
  by_cases hlt : i < l.length
  case neg =>
    obtain rfl : i = l.length := by omega
    have hdl : decide ((l.length : Int) < l.length) = false := decide_eq_false (by omega)
    clear hB hK hl'
    go_wp2_with fail
    refine bodyPost_end (v := .tuple #[]) (by simp [results, Tryz.results32, go_sem]) rfl ?_
    exact ⟨rfl, HK.out⟩
  case pos =>
  have hdl : decide ((i : Int) < l.length) = true := decide_eq_true (by omega)
  obtain ⟨g, cap, hv, hcap, hgl⟩ := Sl.some_ hB (by rw [List.length_map]; omega)
  rw [List.length_map, hl'] at hv
  cases hv
  obtain ⟨y, hy⟩ : ∃ y, l'[i]? = some y := ⟨_, List.getElem?_eq_getElem (by omega)⟩
  have hc : wr.cell? ⟨g, i, none⟩ = some (.int .u8 y.toNat) := by
    have := Sl.cell hB (i := i) (c := bcell y) (by rw [List.getElem?_map, hy]; rfl) (k := 0) (by omega)
    simpa [bcell] using this
  have hf := Sl.frozen hB i
  have HY := Lib.hid hy
  clear hB hK hl' hy
  go_wp2_with fail
  go_roundw
  case rel =>
    refine ⟨i + 1, l'.set i 238, by simp, by omega, by rw [List.length_set]; exact HL.out, ?_, HK.out.setCell (p := ⟨g, i, none⟩) (fun _ => rfl) _⟩
    have := Sl.setCell HB.out (i := i) (c := bcell y) (by rw [List.getElem?_map, HY.out]; rfl) (k := 0) (by omega) (.int .u8 238)
    simp only [bcell, List.set_cons_zero, Nat.mul_one, Nat.add_zero] at this
    unfold Bs
    rw [List.map_set]
    exact this
  case measure => (simp [intOf]; omega)
set_option maxHeartbeats 2000000 in
set_option maxRecDepth 100000 in
theorem hlists_any (av bv : Value) (R T : List (Value × List UInt8)) (w : World) (hA : Sl w 39 1 av (R.map kcell)) (hAB : ∀ y ∈ R, By w y.1 y.2) (hB : Sl w 39 1 bv (T.map kcell)) (hBB : ∀ y ∈ T, By w y.1 y.2) (he : R.map (·.2) = T.map (·.2)) (hlen : R.length ≤ 1000000) :
    Calls Tryz.prog 38 #[av, bv] w fun e w' => e = .returned (.bool true) ∧ Kept (fun _ => False) w w' := by
  have hlt : T.length = R.length := by
    have := congrArg List.length he
    simp only [List.length_map] at this
    exact this.symm
  obtain ⟨aA, aC, hav⟩ := Sl.any hA
  obtain ⟨bA, bC, hbv⟩ := Sl.any hB
  rw [List.length_map] at hav
  rw [List.length_map, hlt] at hbv
  subst hav
  subst hbv
  have HA := Lib.hid hA
  have HB := Lib.hid hB
  have HAB := Lib.hid hAB
  have HBB := Lib.hid hBB
  have HE := Lib.hid he
  have HLT := Lib.hid hlt
  have hnn : ((R.length : Int) != (R.length : Int)) = false := by simp
  clear hA hB hAB hBB he hlt
  go_enter Tryz.func38, Tryz.ntmps38
  go_wp2_with fail
  go_loopw [5] (fun iv wr => ∃ i : Nat, iv = .int .i64 i ∧ i ≤ R.length ∧ Kept (fun _ => False) w wr) (fun iv _ => R.length - (intOf iv).toNat)
  case atStart => exact ⟨0, rfl, by omega, Kept.refl _ w⟩
  case round =>
  obtain ⟨i, rfl, hi, hK⟩ := hrel
  have HK := Lib.hid hK
  by_cases hlt2 : i < R.length
  case neg =>
    obtain rfl : i = R.length := by omega
    have hdl : decide ((R.length : Int) < R.length) = false := decide_eq_false (by omega)
    clear hK
    go_wp2_with fail
    go_ret
    exact ⟨rfl, HK.out⟩
  case pos =>
  have hdl : decide ((i : Int) < R.length) = true := decide_eq_true (by omega)
  obtain ⟨y, hy⟩ : ∃ y, R[i]? = some y := ⟨_, List.getElem?_eq_getElem hlt2⟩
  obtain ⟨z, hz⟩ : ∃ z, T[i]? = some z := ⟨_, List.getElem?_eq_getElem (by have := HLT.out; omega)⟩
  have hyz : y.2 = z.2 := by
    have := congrArg (fun l => l[i]?) HE.out
    simp only [List.getElem?_map, hy, hz, Option.map_some, Option.some.injEq] at this
    exact this
  have hAr := Sl.kept hK HA.out (fun _ _ h => h)
  have hBr := Sl.kept hK HB.out (fun _ _ h => h)
  obtain ⟨ga, ca, hva, hca, hla⟩ := Sl.some_ hAr (by rw [List.length_map]; omega)
  obtain ⟨gb, cb, hvb, hcb, hlb⟩ := Sl.some_ hBr (by rw [List.length_map]; have := HLT.out; omega)
  rw [List.length_map] at hva
  rw [List.length_map, HLT.out] at hvb
  cases hva
  cases hvb
  have q1 : wr.cell? ⟨ga, i, none⟩ = some y.1 := by
    have := Sl.cell hAr (i := i) (c := kcell y) (by rw [List.getElem?_map, hy]; rfl) (k := 0) (by omega)
    simpa [kcell] using this
  have q2 : wr.cell? ⟨gb, i, none⟩ = some z.1 := by
    have := Sl.cell hBr (i := i) (c := kcell z) (by rw [List.getElem?_map, hz]; rfl) (k := 0) (by omega)
    simpa [kcell] using this
  have c1 : (convert 39 9 y.1).run Tryz.prog wr.drew = .ok (sV y.2) wr.drew := (((HAB.out y (List.mem_of_getElem? hy)).kept hK (fun _ _ h => h)).drew).conv Tryz.underlying39 Tryz.underlying5 Tryz.underlying9
  have c2 : (convert 39 9 z.1).run Tryz.prog wr.drew = .ok (sV z.2) wr.drew := (((HBB.out z (List.mem_of_getElem? hz)).kept hK (fun _ _ h => h)).drew).conv Tryz.underlying39 Tryz.underlying5 Tryz.underlying9
  have HYZ := Lib.hid hyz
  clear hAr hBr hK hy hz hyz hca hcb
  go_wp2_with fail
  refine wp_region_mix0 [.w, .w, .w, .l, .l, .w, .w, .w, .l, .l, .l] (by kernel_rfl) (by kernel_rfl) ?_
  repeat (first
    | (refine mix_w1 ?_; go_big_quiet_step (fail); refine wpQuiet_nil ?_)
    | (refine mix_l1 rfl ?_; go_big_quiet_step (fail); refine wpQuiet_nil ?_))
  refine mix_binG rfl rfl .neq 9 9 (.tmp 21) (.tmp 26) rfl (sV y.2) (sV z.2) (.bool (y.2 != z.2)) rfl rfl (fun w' => guardS .neq _ _ _ y.2 z.2 w') (fun w' => run_neq_sV _ y.2 z.2 w') ?_
  simp only [Act.put, List.setIfInBounds_toArray, List.set_cons_succ, List.set_cons_zero]
  rw [show (y.2 != z.2) = false by rw [HYZ.out]; simp]
  refine mix_nil ?_
  clear q1 q2 c1 c2
  go_wp2_with fail
  go_roundw
  case rel => exact ⟨i + 1, by simp, by omega, HK.out.drew⟩
  case measure => (simp [intOf]; omega)

end Go.Proofs.YtahabogjfcdjkaaGreat
