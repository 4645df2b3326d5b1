import Derived.Test.YtahabogjfcdjkaaGreatMn
set_option linter.unusedSimpArgs false
set_option linter.unusedVariables false
namespace Go.Proofs.YtahabogjfcdjkaaGreat
open Go.RowKit

theorem Blk.kept' {F : Nat → Prop} {w w' : World} {g : Nat} {t : TypeId} {cs : Array Value} (hb : Blk w g t cs) (h : Kept F w w') (hF : ¬ F g) : Blk w' g t cs := h.blk hF hb
theorem naInt : ∀ w, (isAgg 3).run Tryz.prog w = .ok false w := fun w => by kernel_rfl
theorem kind1_nums {d : Df} (h : defB ⟨1, d.key, d.value, d.entries, d.timer, 0⟩ = true) : 1 ≤ d.value ∧ d.value ≤ 256 ∧ (d.timer = true → 16 ≤ d.value) ∧ 1 ≤ d.entries ∧ d.entries ≤ 64 := by
  unfold defB at h
  rw [if_pos rfl] at h
  unfold kindB1 valB inB at h
  simp at h
  refine ⟨by omega, by omega, fun ht => ?_, by omega, by omega⟩
  rcases h.2.1.2 with h' | h'
  · rw [h'] at ht; cases ht
  · omega

/-- the entries of an array: from 0 on -/
def entA (b n : Nat) : List (List UInt8 × Int) := (List.range n).map fun j => (leB j 4, ((b + j : Nat) : Int) + 1)
/-- so many new regions, at 0 -/
structure Gr (L L1 : List Rg) (vn hn n : Nat) : Prop where
  len : L1.length = L.length + n
  pre : ∀ j, j < L.length → L1[j]? = L[j]?
  new : ∀ j, j < n → ∃ r : Rg, L1[L.length + j]? = some r ∧ r.b = List.replicate vn 0 ∧ r.hid = (hn : Nat) ∧ r.wr = true ∧ r.dead = false
theorem leB_head (n : Nat) : (leB n 4)[0]? = some (UInt8.ofNat n) := rfl
theorem leB_inj {i j : Nat} (hi : i < 256) (hj : j < 256) (h : leB i 4 = leB j 4) : i = j := by
  have := congrArg (·[0]?) h
  simp only [leB_head, Option.some.injEq] at this
  have h2 := congrArg UInt8.toNat this
  simp only [UInt8.toNat_ofNat'] at h2
  omega
theorem lookS_none {α : Type} {l : List (List UInt8 × α)} {k : List UInt8} (h : ∀ y ∈ l, y.1 ≠ k) : lookS l k = none := by
  induction l with
  | nil => rfl
  | cons y r ih =>
    obtain ⟨a, b⟩ := y
    simp only [lookS]
    rw [if_neg (h (a, b) (List.mem_cons_self ..)), ih (fun y hy => h y (List.mem_cons_of_mem _ hy))]
theorem entA_succ (b n : Nat) : entA b (n + 1) = entA b n ++ [(leB n 4, ((b + n : Nat) : Int) + 1)] := by
  unfold entA
  rw [List.range_succ, List.map_append]
  rfl
theorem entA_none (b : Nat) {n : Nat} (hn : n < 256) : lookS (entA b n) (leB n 4) = none := by
  refine lookS_none fun y hy e => ?_
  obtain ⟨j, hj, rfl⟩ := List.mem_map.1 hy
  have hj' := List.mem_range.1 hj
  have := leB_inj (i := j) (j := n) (by omega) hn e
  omega
theorem zeros_hid (vn hn : Nat) (h : hn ≤ vn) : List.replicate hn (0 : UInt8) ++ (List.replicate vn 0).drop hn = List.replicate vn 0 := by
  rw [List.drop_replicate, List.replicate_append_replicate]
  congr 1
  omega

theorem growA {w4 w5 : World} {qn mp mn i vn nn : Nat} {key : Int} {timer : Bool} {type : Int} {pv v4 : Value} {L L1 : List Rg} {g4 : Nat} {cv4 : Value} (hgr : Gr L L1 vn (hidN timer) i)
    (hM : Mp w4 ⟨qn, mp, mn, pv, v4⟩ ⟨⟨1, key, vn, nn, timer, type⟩, entA L.length i, []⟩ (L1 ++ [⟨g4, cv4, List.replicate (hidN timer) 0 ++ (List.replicate vn 0).drop (hidN timer), true, (hidN timer : Nat), false⟩]))
    (hm : SMap w5 mn (updS (MS.vals ⟨⟨1, key, vn, nn, timer, type⟩, entA L.length i, []⟩) (leB i 4) (.int .i64 ((L1.length : Int) + 1)))) (hk : Kept (fun k => k = mn) w4 w5) (hi : i < 64) (hh : hidN timer ≤ vn) :
    Mp w5 ⟨qn, mp, mn, pv, v4⟩ ⟨⟨1, key, vn, nn, timer, type⟩, entA L.length (i + 1), []⟩ (L1 ++ [⟨g4, cv4, List.replicate (hidN timer) 0 ++ (List.replicate vn 0).drop (hidN timer), true, (hidN timer : Nat), false⟩]) ∧
    Gr L (L1 ++ [⟨g4, cv4, List.replicate (hidN timer) 0 ++ (List.replicate vn 0).drop (hidN timer), true, (hidN timer : Nat), false⟩]) vn (hidN timer) (i + 1) := by
  rw [zeros_hid vn _ hh] at *
  have hlen := hgr.len
  have hnone := entA_none L.length (n := i) (by omega)
  have hlv : lookS (MS.vals ⟨⟨1, key, vn, nn, timer, type⟩, entA L.length i, []⟩) (leB i 4) = none := by rw [look_vals]; simp only [hnone]; rfl
  rw [updS_new hlv] at hm
  have hqm := hM.qm
  refine ⟨⟨hk.blk (fun e => hqm e.symm) hM.blk, ?_, hM.prog.kept hk (fun g hg e => (hM.dp g hg).2.2 e), hM.mem.kept hk (fun n hn e => hM.dm (by rw [← e]; exact hn)), hM.dq, hM.dm, hM.dp, fun y hy => ?_, ?_⟩, ?_, fun j hj => ?_, fun j hj => ?_⟩
  · show SMap w5 mn ((entA L.length (i + 1)).map fun y => (y.1, Value.int .i64 y.2))
    rw [entA_succ, List.map_append]
    rw [hlen] at hm
    exact hm
  · have hy : y ∈ entA L.length (i + 1) := hy
    rw [entA_succ] at hy
    rcases List.mem_append.1 hy with hy | hy
    · exact hM.ids y hy
    · rw [List.mem_singleton.1 hy]
      refine ⟨L.length + i, ⟨g4, cv4, List.replicate vn 0, true, (hidN timer : Nat), false⟩, rfl, ?_, by simp⟩
      rw [← hlen, List.getElem?_append_right (Nat.le_refl _), Nat.sub_self]
      rfl
  · show (entA L.length (i + 1)).length ≤ _
    simp [entA]
    omega
  · simp; omega
  · rw [List.getElem?_append_left (by omega)]
    exact hgr.pre j hj
  · by_cases e : j < i
    · obtain ⟨r, h1, h2⟩ := hgr.new j e
      exact ⟨r, by rw [List.getElem?_append_left (by omega)]; exact h1, h2⟩
    · obtain rfl : j = i := by omega
      exact ⟨⟨g4, cv4, List.replicate vn 0, true, (hidN timer : Nat), false⟩, by rw [← hlen, List.getElem?_append_right (Nat.le_refl _), Nat.sub_self]; rfl, rfl, rfl, rfl, rfl⟩

set_option maxHeartbeats 8000000 in
set_option maxRecDepth 100000 in
theorem new_array (d : Df) (mp : Nat) (v : Value) (L : List Rg) (w : World) (h : IsMem w mp v L) (hLs : L.length ≤ 90000) (h2 : d.kind = 1) (hd : defB { d with type := 0 } = true) :
    Calls Tryz.prog 8 #[.agg d.cells, .pointer (some ⟨mp, 0, none⟩)] w fun e w' => ∃ q m v' L', e = .returned (.tuple #[.pointer (some ⟨q, 0, none⟩), .int .i64 0]) ∧ Mp w' ⟨q, mp, m, .slice none 0 0, v'⟩ ⟨d, entA L.length d.entries.toNat, []⟩ L' ∧
      Gr L L' d.value.toNat (hidN d.timer) d.entries.toNat ∧ (∀ k, fpMp ⟨q, mp, m, .slice none 0 0, v'⟩ L' k → k ∈ blM mp v L ∨ w.heap.size ≤ k) ∧ Kept (fun k => k ∈ blM mp v L) w w' := by
  obtain ⟨kind, key, value, entries, timer, type⟩ := d
  simp only at h2
  subst h2
  obtain ⟨hv1, hv2, hv3, hn1, hn2⟩ := kind1_nums hd
  simp only at hv1 hv2 hv3 hn1 hn2
  obtain ⟨vn, rfl⟩ : ∃ vn : Nat, value = vn := ⟨value.toNat, by omega⟩
  obtain ⟨nn, rfl⟩ : ∃ nn : Nat, entries = nn := ⟨entries.toNat, by omega⟩
  have hdef := fun W => def_any ⟨1, key, (vn : Int), (nn : Int), timer, 0⟩ (.slice none 0 0) W rfl (by show (1 : Int) ≠ 4; decide)
  rw [hd] at hdef
  have HDEF := Lib.hid hdef
  clear hdef hd
  unfold Df.cells
  have hmm := @run_makeMap Tryz.prog
  go_enter Tryz.func8, Tryz.ntmps8
  go_wp2_with fail
  refine (HDEF.out _).mono ?_
  rintro e w2 ⟨rfl, hk2⟩
  have hk0 : Kept (fun _ => False) w w2 := Kept.trans (((Kept.refl _ w).alloc _).alloc _) hk2 (fun _ _ h => h)
  have hb2 : Blk w2 w.heap.size 23 #[.int .i64 1, .int .i64 key, .int .i64 (vn : Int), .int .i64 (nn : Int), .bool timer, .int .i64 type] := hk2.blk (fun h => h) ((Blk.new w _ _).alloc _)
  have hc2 := hb2.cell
  have hs2 := hk0.size
  have hlt := hb2.lt
  have hlt2 : w.heap.size < w2.heap.size + 1 := by omega
  have hmade : Mp ((w2.alloc (.map #[] 0)).alloc (.cells #[.int .i64 1, .int .i64 key, .int .i64 (vn : Int), .int .i64 (nn : Int), .bool timer, .int .i64 type, .pointer (some ⟨mp, 0, none⟩), .map (some w2.heap.size), .slice none 0 0] 61)) ⟨w2.heap.size + 1, mp, w2.heap.size, .slice none 0 0, v⟩ ⟨⟨1, key, (vn : Int), (nn : Int), timer, type⟩, [], []⟩ L := by
    refine Mp.made h _ ((hk0.alloc _).alloc _) (by omega) hs2 ?_ ((SMap.made w2).alloc _)
    have := Blk.new (w2.alloc (.map #[] 0)) 61 #[.int .i64 1, .int .i64 key, .int .i64 (vn : Int), .int .i64 (nn : Int), .bool timer, .int .i64 type, .pointer (some ⟨mp, 0, none⟩), .map (some w2.heap.size), .slice none 0 0]
    have e : (w2.alloc (.map #[] 0)).heap.size = w2.heap.size + 1 := by simp
    rw [e] at this
    exact this
  have HM := Lib.hid hmade
  clear hmade
  obtain ⟨u0, hU0, hU1, hU2, hU3⟩ := info_parts infoU8
  have hhid : hidN timer ≤ vn := by
    unfold hidN
    split
    · rename_i e; have := hv3 e; omega
    · omega
  simp only [Int.toNat_natCast]
  have hkW : Kept (fun k => k ∈ blM mp v L) w ((w2.alloc (.map #[] 0)).alloc (.cells #[.int .i64 1, .int .i64 key, .int .i64 vn, .int .i64 nn, .bool timer, .int .i64 type, .pointer (some ⟨mp, 0, none⟩), .map (some w2.heap.size), .slice none 0 0] 61)) := ((hk0.alloc _).alloc _).mono (fun _ _ h => h.elim)
  have hbW : Blk ((w2.alloc (.map #[] 0)).alloc (.cells #[.int .i64 1, .int .i64 key, .int .i64 vn, .int .i64 nn, .bool timer, .int .i64 type, .pointer (some ⟨mp, 0, none⟩), .map (some w2.heap.size), .slice none 0 0] 61)) w.heap.size 23 #[.int .i64 1, .int .i64 key, .int .i64 vn, .int .i64 nn, .bool timer, .int .i64 type] := (hb2.alloc _).alloc _
  have hfpW : ∀ k, fpMp (⟨w2.heap.size + 1, mp, w2.heap.size, .slice none 0 0, v⟩ : Loc) L k → k ∈ blM mp v L ∨ w.heap.size ≤ k := fun k hk => by
    rcases hk with e | e | e | e
    · exact .inr (by simp only at e; omega)
    · exact .inr (by simp only at e; omega)
    · simp [Value.ownBlock] at e
    · exact .inl e
  have hnW : ¬ fpMp (⟨w2.heap.size + 1, mp, w2.heap.size, .slice none 0 0, v⟩ : Loc) L w.heap.size := fun e => by
    rcases e with e | e | e | e
    · simp only at e; omega
    · simp only at e; omega
    · simp [Value.ownBlock] at e
    · have := h.lt e; omega
  have hmn : w.heap.size < w2.heap.size := hlt
  go_wp2_with fail
  have hM := HM.out
  clear HM
  generalize (w2.alloc (.map #[] 0)).alloc (.cells #[.int .i64 1, .int .i64 key, .int .i64 vn, .int .i64 nn, .bool timer, .int .i64 type, .pointer (some ⟨mp, 0, none⟩), .map (some w2.heap.size), .slice none 0 0] 61) = w3 at *
  have hqn0 : w2.heap.size < w2.heap.size + 1 := by omega
  generalize hmn2 : w2.heap.size = mn at *
  generalize hqn2 : mn + 1 = qn at *
  clear hmn2 hqn2 hb2 hc2 hk0 hlt hlt2 hs2 hk2 HDEF
  go_loopw [46] (fun iv wr => ∃ (i : Nat) (v1 : Value) (L1 : List Rg), iv = .int .i64 i ∧ i ≤ nn ∧ Mp wr ⟨qn, mp, mn, .slice none 0 0, v1⟩ ⟨⟨1, key, vn, nn, timer, type⟩, entA L.length i, []⟩ L1 ∧ Gr L L1 vn (hidN timer) i ∧
      Blk wr w.heap.size 23 #[.int .i64 1, .int .i64 key, .int .i64 vn, .int .i64 nn, .bool timer, .int .i64 type] ∧ ¬ fpMp (⟨qn, mp, mn, .slice none 0 0, v1⟩ : Loc) L1 w.heap.size ∧ (∀ k, fpMp (⟨qn, mp, mn, .slice none 0 0, v1⟩ : Loc) L1 k → k ∈ blM mp v L ∨ w.heap.size ≤ k) ∧ Kept (fun k => k ∈ blM mp v L) w wr) (fun iv _ => nn - (intOf iv).toNat)
  case atStart => exact ⟨0, v, L, rfl, Nat.zero_le _, hM, ⟨rfl, fun _ _ => rfl, fun j hj => by omega⟩, hbW, hnW, hfpW, hkW⟩
  case round =>
    clear hM hbW hnW hfpW hkW
    obtain ⟨i, v1, L1, rfl, hi, hM, hgr, hB, hn2, hfp, hK⟩ := hrel
    by_cases hlt : i < nn
    case neg =>
      obtain rfl : i = nn := by omega
      go_wp2_with fail
      go_ret2
      exact ⟨_, _, _, _, rfl, hM, hgr, hfp, hK⟩
    case pos =>
      have hi64 : i < 64 := by omega
      have hnm : w.heap.size ≠ mn := by omega
      have hM0 := hM.drew
      have hB0 : Blk wr.drew w.heap.size 23 #[.int .i64 1, .int .i64 key, .int .i64 vn, .int .i64 nn, .bool timer, .int .i64 type] := hB
      have hK0 := hK.drew
      have hC0 : wr.drew.cell? ⟨qn, 7, none⟩ = some (.map (some mn)) ∧ wr.drew.cell? ⟨w.heap.size, 2, none⟩ = some (.int .i64 vn) := ⟨hM.blk.cell 7, hB.cell 2⟩
      go_wp2_with fail
      refine wp_region_tree [.w, .w, .w, .l, .w, .w, .k, .k, .w, .w, .l, .k, .k, .t] (fun w' => w'.cell? ⟨qn, 7, none⟩ = some (.map (some mn)) ∧ w'.cell? ⟨w.heap.size, 2, none⟩ = some (.int .i64 vn)) [true, true, true, true, true, true, true, true, true, true, true, true, true, true] (by kernel_rfl) (by kernel_rfl) (by kernel_rfl) ?_
      refine tree_fork2 [false, false, false, false, true, true, true, false, false, false, false, false, false, false] [true, true, true, true, false, false, false, true, true, true, true, true, true, true] [false, false, false, false, false, false, false, false, false, true, true, true, false, false] [true, true, true, true, true, true, true, true, true, false, false, false, true, true] (by kernel_rfl) ?_ ?_
      · simp only [keep]
        repeat (refine mix_w1 ?_; go_big_quiet_step (fail); refine wpQuiet_nil ?_)
        refine mix_k hC0 fun Q' hQ' => ?_
        go_wp2_with fail
        refine (little_any i 4 wr.drew (by omega) (by omega)).mono ?_
        rintro e w1a ⟨ov, rfl, hov1, hovb1, hk1⟩
        have hM1 := hM0.quiet hk1
        have hB1 := hk1.blk (fun h => h) hB0
        have hq1 : ∀ g, ov.ownBlock = some g → ¬ fpMp (⟨qn, mp, mn, .slice none 0 0, v1⟩ : Loc) L1 g ∧ g ≠ w.heap.size ∧ w.heap.size ≤ g := fun g hg => by
          have h1 := hovb1 g hg
          have hz1 := hK0.size
          have hz2 := hB0.lt
          exact ⟨fun e => by have := hM0.lt e; omega, by omega, by omega⟩
        have hK1 := hK0.trans hk1 (fun k _ h => h.elim)
        have hC1 : w1a.cell? ⟨qn, 7, none⟩ = some (.map (some mn)) ∧ w1a.cell? ⟨w.heap.size, 2, none⟩ = some (.int .i64 vn) := ⟨hM1.blk.cell 7, hB1.cell 2⟩
        go_wp2_with fail
        refine hQ' _ _ hC1 ?_
        clear hQ' Q'
        refine mix_done ?_
        try simp only [Act.put, List.setIfInBounds_toArray, List.set_cons_succ, List.set_cons_zero]
        refine tree_fork2 [false, false, false, false, false, false, false, true, false, false, false, false, false, false] [true, true, true, true, false, false, false, false, true, true, true, true, true, true] [false, false, false, false, false, false, false, false, false, true, true, true, false, false] [true, true, true, true, false, false, false, true, true, false, false, false, true, true] (by kernel_rfl) ?_ ?_
        · simp only [keep]
          repeat (refine mix_w1 ?_; go_big_quiet_step (fail); refine wpQuiet_nil ?_)
          have hcv2 : (convert 39 9 ov).run Tryz.prog w1a = .ok (sV (leB i 4)) w1a := hov1.by_.conv Tryz.underlying39 Tryz.underlying5 Tryz.underlying9
          refine mix_k hC1 fun Q' hQ' => ?_
          go_wp2_with fail
          refine hQ' _ _ hC1 ?_
          clear hcv2 hQ' Q'
          refine mix_done ?_
          try simp only [Act.put, List.setIfInBounds_toArray, List.set_cons_succ, List.set_cons_zero]
          refine tree_fork1 [false, false, false, false, false, false, false, false, false, true, true, true, false, false] [true, true, true, true, false, false, false, false, true, false, false, false, true, true] (by kernel_rfl) ?_
          simp only [keep]
          repeat (refine mix_w1 ?_; go_big_quiet_step (fail); refine wpQuiet_nil ?_)
          refine mix_load1 hC1 rfl 3 (.tmp 58) rfl naInt ⟨w.heap.size, 2, none⟩ _ rfl (fun _ h => h.2) ?_
          simp only [Act.put, List.setIfInBounds_toArray, List.set_cons_succ, List.set_cons_zero]
          repeat (refine mix_w1 ?_; go_big_quiet_step (fail); refine wpQuiet_nil ?_)
          refine mix_k hC1 fun Q' hQ' => ?_
          go_wp2_with (refine wpList_makeBs (w := w1a) rfl (.tmp 59) (.tmp 59) 39 rfl Tryz.underlying39 hU0 hU1 hU2 hU3 vn rfl rfl (by omega) ?_; intro w3a hmk3 hk3)
          have hM3 := hM1.quiet hk3
          have hB3 := hk3.blk (fun h => h) hB1
          have hK3 := hK1.trans hk3 (fun k _ h => h.elim)
          have hC3 : w3a.cell? ⟨qn, 7, none⟩ = some (.map (some mn)) ∧ w3a.cell? ⟨w.heap.size, 2, none⟩ = some (.int .i64 vn) := ⟨hM3.blk.cell 7, hB3.cell 2⟩
          have hov3 := hov1.kept hk3 (fun _ _ h => h)
          refine hQ' _ _ hC3 ?_
          clear hQ' Q'
          refine mix_done ?_
          try simp only [Act.put, List.setIfInBounds_toArray, List.set_cons_succ, List.set_cons_zero]
          refine tree_fork1 [false, false, false, false, false, false, false, false, true, false, false, false, true, false] [true, true, true, true, false, false, false, false, false, false, false, false, false, true] (by kernel_rfl) ?_
          simp only [keep]
          repeat (refine mix_w1 ?_; go_big_quiet_step (fail); refine wpQuiet_nil ?_)
          refine mix_k hC3 fun Q' hQ' => ?_
          go_wp2_with fail
          refine (fresh_any (⟨qn, mp, mn, .slice none 0 0, v1⟩ : Loc) (⟨⟨1, key, vn, nn, timer, type⟩, entA L.length i, []⟩ : MS) L1 _ (List.replicate vn 0) w3a hM3 hmk3.by_ (by simp; omega) (by simpa using hhid) (by simp; omega) (by have := hgr.len; omega)).mono ?_
          rintro e w4a ⟨rfl, v4, g4, cv4, hM4, hF4, hk4⟩
          have hB4 := hk4.blk (fun e => hn2 (.inr (.inr (.inr e)))) hB3
          have hK4 := hK3.trans hk4 (fun k hk h => (hfp k (.inr (.inr (.inr h)))).resolve_right (by omega))
          have hC4 : w4a.cell? ⟨qn, 7, none⟩ = some (.map (some mn)) ∧ w4a.cell? ⟨w.heap.size, 2, none⟩ = some (.int .i64 vn) := ⟨hM4.blk.cell 7, hB4.cell 2⟩
          have hz4 : w.heap.size ≤ w3a.heap.size := hK3.size
          have hG4 : ∀ k, fpMp (⟨qn, mp, mn, .slice none 0 0, v4⟩ : Loc) (L1 ++ [⟨g4, cv4, List.replicate (hidN timer) 0 ++ (List.replicate vn 0).drop (hidN timer), true, (hidN timer : Nat), false⟩]) k → fpMp (⟨qn, mp, mn, .slice none 0 0, v1⟩ : Loc) L1 k ∨ w.heap.size ≤ k := fun k hk => (hF4 k hk).imp (fun h => h) (fun h => Nat.le_trans hz4 h)
          have hn4 : ¬ fpMp (⟨qn, mp, mn, .slice none 0 0, v4⟩ : Loc) (L1 ++ [⟨g4, cv4, List.replicate (hidN timer) 0 ++ (List.replicate vn 0).drop (hidN timer), true, (hidN timer : Nat), false⟩]  ) w.heap.size := fun e => by
            rcases hF4 _ e with e | e
            · exact hn2 e
            · have := hB3.lt; omega
          have hov4 := hov3.kept hk4 (fun g hg e => (hq1 g hg).1 (.inr (.inr (.inr e))))
          go_wp2_with fail
          refine hQ' _ _ hC4 ?_
          clear hQ' Q'
          refine mix_done ?_
          try simp only [Act.put, List.setIfInBounds_toArray, List.set_cons_succ, List.set_cons_zero]
          refine tree_fork1 [true, true, true, true, false, false, false, false, false, false, false, false, false, true] [false, false, false, false, false, false, false, false, false, false, false, false, false, false] (by kernel_rfl) ?_
          simp only [keep]
          repeat (refine mix_w1 ?_; go_big_quiet_step (fail); refine wpQuiet_nil ?_)
          refine mix_load1 hC4 rfl 58 (.tmp 51) rfl naMap ⟨qn, 7, none⟩ _ rfl (fun _ h => h.1) ?_
          simp only [Act.put, List.setIfInBounds_toArray, List.set_cons_succ, List.set_cons_zero]
          repeat (refine mix_w1 ?_; go_big_quiet_step (fail); refine wpQuiet_nil ?_)
          refine mix_t fun Q' hQ' => ?_
          refine wpList_updS rfl (.tmp 52) (.tmp 56) (.tmp 61) 58 rfl Tryz.underlying58 Tryz.underlying9 hM4.map (leB i 4) (.int .i64 ((L1.length : Int) + 1)) rfl rfl rfl ?_
          intro w5a hm5 hk5
          refine hQ' _ _ ?_
          refine mix_done ?_
          try simp only [Act.put, List.setIfInBounds_toArray, List.set_cons_succ, List.set_cons_zero]
          refine tree_last (by kernel_rfl) ?_
          simp only [keep]
          refine mix_done ?_
          obtain ⟨hf1, hf2⟩ := growA hgr hM4 hm5 hk5 hi64 hhid
          have hf3 := hB4.kept' hk5 (fun e => hnm e)
          have hf4 := hK4.trans hk5 (fun k hk e => absurd hk (by have e : k = mn := e; omega))
          have hf5 : ∀ k, fpMp (⟨qn, mp, mn, .slice none 0 0, v4⟩ : Loc) (L1 ++ [⟨g4, cv4, List.replicate (hidN timer) 0 ++ (List.replicate vn 0).drop (hidN timer), true, (hidN timer : Nat), false⟩]) k → k ∈ blM mp v L ∨ w.heap.size ≤ k := fun k hk => by
            rcases hG4 k hk with e | e
            · exact hfp k e
            · exact .inr e
          have hf6 := hn4
          try simp only [Act.put]
          go_wp2_with fail
          go_roundw
          case rel => exact ⟨i + 1, v4, _, by go_num, by omega, hf1, hf2, hf3, hf6, hf5, hf4⟩
          case measure => simp [intOf]; omega
        · simp only [keep]
          repeat (refine mix_w1 ?_; go_big_quiet_step (fail); refine wpQuiet_nil ?_)
          refine mix_load1 hC1 rfl 3 (.tmp 58) rfl naInt ⟨w.heap.size, 2, none⟩ _ rfl (fun _ h => h.2) ?_
          simp only [Act.put, List.setIfInBounds_toArray, List.set_cons_succ, List.set_cons_zero]
          repeat (refine mix_w1 ?_; go_big_quiet_step (fail); refine wpQuiet_nil ?_)
          refine mix_k hC1 fun Q' hQ' => ?_
          go_wp2_with (refine wpList_makeBs (w := w1a) rfl (.tmp 59) (.tmp 59) 39 rfl Tryz.underlying39 hU0 hU1 hU2 hU3 vn rfl rfl (by omega) ?_; intro w6a hmk6 hk6)
          have hM6 := hM1.quiet hk6
          have hB6 := hk6.blk (fun h => h) hB1
          have hK6 := hK1.trans hk6 (fun k _ h => h.elim)
          have hC6 : w6a.cell? ⟨qn, 7, none⟩ = some (.map (some mn)) ∧ w6a.cell? ⟨w.heap.size, 2, none⟩ = some (.int .i64 vn) := ⟨hM6.blk.cell 7, hB6.cell 2⟩
          have hov6 := hov1.kept hk6 (fun _ _ h => h)
          refine hQ' _ _ hC6 ?_
          clear hQ' Q'
          refine mix_done ?_
          try simp only [Act.put, List.setIfInBounds_toArray, List.set_cons_succ, List.set_cons_zero]
          refine tree_fork2 [false, false, false, false, false, false, false, true, false, false, false, false, false, false] [true, true, true, true, false, false, false, false, true, false, false, false, true, true] [false, false, false, false, false, false, false, false, true, false, false, false, true, false] [true, true, true, true, false, false, false, true, false, false, false, false, false, true] (by kernel_rfl) ?_ ?_
          · simp only [keep]
            repeat (refine mix_w1 ?_; go_big_quiet_step (fail); refine wpQuiet_nil ?_)
            have hcv7 : (convert 39 9 ov).run Tryz.prog w6a = .ok (sV (leB i 4)) w6a := hov6.by_.conv Tryz.underlying39 Tryz.underlying5 Tryz.underlying9
            refine mix_k hC6 fun Q' hQ' => ?_
            go_wp2_with fail
            refine hQ' _ _ hC6 ?_
            clear hcv7 hQ' Q'
            refine mix_done ?_
            try simp only [Act.put, List.setIfInBounds_toArray, List.set_cons_succ, List.set_cons_zero]
            refine tree_fork1 [false, false, false, false, false, false, false, false, true, false, false, false, true, false] [true, true, true, true, false, false, false, false, false, false, false, false, false, true] (by kernel_rfl) ?_
            simp only [keep]
            repeat (refine mix_w1 ?_; go_big_quiet_step (fail); refine wpQuiet_nil ?_)
            refine mix_k hC6 fun Q' hQ' => ?_
            go_wp2_with fail
            refine (fresh_any (⟨qn, mp, mn, .slice none 0 0, v1⟩ : Loc) (⟨⟨1, key, vn, nn, timer, type⟩, entA L.length i, []⟩ : MS) L1 _ (List.replicate vn 0) w6a hM6 hmk6.by_ (by simp; omega) (by simpa using hhid) (by simp; omega) (by have := hgr.len; omega)).mono ?_
            rintro e w8a ⟨rfl, v4, g4, cv4, hM8, hF8, hk8⟩
            have hB8 := hk8.blk (fun e => hn2 (.inr (.inr (.inr e)))) hB6
            have hK8 := hK6.trans hk8 (fun k hk h => (hfp k (.inr (.inr (.inr h)))).resolve_right (by omega))
            have hC8 : w8a.cell? ⟨qn, 7, none⟩ = some (.map (some mn)) ∧ w8a.cell? ⟨w.heap.size, 2, none⟩ = some (.int .i64 vn) := ⟨hM8.blk.cell 7, hB8.cell 2⟩
            have hz8 : w.heap.size ≤ w6a.heap.size := hK6.size
            have hG8 : ∀ k, fpMp (⟨qn, mp, mn, .slice none 0 0, v4⟩ : Loc) (L1 ++ [⟨g4, cv4, List.replicate (hidN timer) 0 ++ (List.replicate vn 0).drop (hidN timer), true, (hidN timer : Nat), false⟩]) k → fpMp (⟨qn, mp, mn, .slice none 0 0, v1⟩ : Loc) L1 k ∨ w.heap.size ≤ k := fun k hk => (hF8 k hk).imp (fun h => h) (fun h => Nat.le_trans hz8 h)
            have hn8 : ¬ fpMp (⟨qn, mp, mn, .slice none 0 0, v4⟩ : Loc) (L1 ++ [⟨g4, cv4, List.replicate (hidN timer) 0 ++ (List.replicate vn 0).drop (hidN timer), true, (hidN timer : Nat), false⟩]  ) w.heap.size := fun e => by
              rcases hF8 _ e with e | e
              · exact hn2 e
              · have := hB6.lt; omega
            have hov8 := hov6.kept hk8 (fun g hg e => (hq1 g hg).1 (.inr (.inr (.inr e))))
            go_wp2_with fail
            refine hQ' _ _ hC8 ?_
            clear hQ' Q'
            refine mix_done ?_
            try simp only [Act.put, List.setIfInBounds_toArray, List.set_cons_succ, List.set_cons_zero]
            refine tree_fork1 [true, true, true, true, false, false, false, false, false, false, false, false, false, true] [false, false, false, false, false, false, false, false, false, false, false, false, false, false] (by kernel_rfl) ?_
            simp only [keep]
            repeat (refine mix_w1 ?_; go_big_quiet_step (fail); refine wpQuiet_nil ?_)
            refine mix_load1 hC8 rfl 58 (.tmp 51) rfl naMap ⟨qn, 7, none⟩ _ rfl (fun _ h => h.1) ?_
            simp only [Act.put, List.setIfInBounds_toArray, List.set_cons_succ, List.set_cons_zero]
            repeat (refine mix_w1 ?_; go_big_quiet_step (fail); refine wpQuiet_nil ?_)
            refine mix_t fun Q' hQ' => ?_
            refine wpList_updS rfl (.tmp 52) (.tmp 56) (.tmp 61) 58 rfl Tryz.underlying58 Tryz.underlying9 hM8.map (leB i 4) (.int .i64 ((L1.length : Int) + 1)) rfl rfl rfl ?_
            intro w9a hm9 hk9
            refine hQ' _ _ ?_
            refine mix_done ?_
            try simp only [Act.put, List.setIfInBounds_toArray, List.set_cons_succ, List.set_cons_zero]
            refine tree_last (by kernel_rfl) ?_
            simp only [keep]
            refine mix_done ?_
            obtain ⟨hf1, hf2⟩ := growA hgr hM8 hm9 hk9 hi64 hhid
            have hf3 := hB8.kept' hk9 (fun e => hnm e)
            have hf4 := hK8.trans hk9 (fun k hk e => absurd hk (by have e : k = mn := e; omega))
            have hf5 : ∀ k, fpMp (⟨qn, mp, mn, .slice none 0 0, v4⟩ : Loc) (L1 ++ [⟨g4, cv4, List.replicate (hidN timer) 0 ++ (List.replicate vn 0).drop (hidN timer), true, (hidN timer : Nat), false⟩]) k → k ∈ blM mp v L ∨ w.heap.size ≤ k := fun k hk => by
              rcases hG8 k hk with e | e
              · exact hfp k e
              · exact .inr e
            have hf6 := hn8
            try simp only [Act.put]
            go_wp2_with fail
            go_roundw
            case rel => exact ⟨i + 1, v4, _, by go_num, by omega, hf1, hf2, hf3, hf6, hf5, hf4⟩
            case measure => simp [intOf]; omega
          · simp only [keep]
            repeat (refine mix_w1 ?_; go_big_quiet_step (fail); refine wpQuiet_nil ?_)
            refine mix_k hC6 fun Q' hQ' => ?_
            go_wp2_with fail
            refine (fresh_any (⟨qn, mp, mn, .slice none 0 0, v1⟩ : Loc) (⟨⟨1, key, vn, nn, timer, type⟩, entA L.length i, []⟩ : MS) L1 _ (List.replicate vn 0) w6a hM6 hmk6.by_ (by simp; omega) (by simpa using hhid) (by simp; omega) (by have := hgr.len; omega)).mono ?_
            rintro e w10a ⟨rfl, v4, g4, cv4, hM10, hF10, hk10⟩
            have hB10 := hk10.blk (fun e => hn2 (.inr (.inr (.inr e)))) hB6
            have hK10 := hK6.trans hk10 (fun k hk h => (hfp k (.inr (.inr (.inr h)))).resolve_right (by omega))
            have hC10 : w10a.cell? ⟨qn, 7, none⟩ = some (.map (some mn)) ∧ w10a.cell? ⟨w.heap.size, 2, none⟩ = some (.int .i64 vn) := ⟨hM10.blk.cell 7, hB10.cell 2⟩
            have hz10 : w.heap.size ≤ w6a.heap.size := hK6.size
            have hG10 : ∀ k, fpMp (⟨qn, mp, mn, .slice none 0 0, v4⟩ : Loc) (L1 ++ [⟨g4, cv4, List.replicate (hidN timer) 0 ++ (List.replicate vn 0).drop (hidN timer), true, (hidN timer : Nat), false⟩]) k → fpMp (⟨qn, mp, mn, .slice none 0 0, v1⟩ : Loc) L1 k ∨ w.heap.size ≤ k := fun k hk => (hF10 k hk).imp (fun h => h) (fun h => Nat.le_trans hz10 h)
            have hn10 : ¬ fpMp (⟨qn, mp, mn, .slice none 0 0, v4⟩ : Loc) (L1 ++ [⟨g4, cv4, List.replicate (hidN timer) 0 ++ (List.replicate vn 0).drop (hidN timer), true, (hidN timer : Nat), false⟩]  ) w.heap.size := fun e => by
              rcases hF10 _ e with e | e
              · exact hn2 e
              · have := hB6.lt; omega
            have hov10 := hov6.kept hk10 (fun g hg e => (hq1 g hg).1 (.inr (.inr (.inr e))))
            go_wp2_with fail
            refine hQ' _ _ hC10 ?_
            clear hQ' Q'
            refine mix_done ?_
            try simp only [Act.put, List.setIfInBounds_toArray, List.set_cons_succ, List.set_cons_zero]
            refine tree_fork1 [false, false, false, false, false, false, false, true, false, false, false, false, false, false] [true, true, true, true, false, false, false, false, false, false, false, false, false, true] (by kernel_rfl) ?_
            simp only [keep]
            repeat (refine mix_w1 ?_; go_big_quiet_step (fail); refine wpQuiet_nil ?_)
            have hcv11 : (convert 39 9 ov).run Tryz.prog w10a = .ok (sV (leB i 4)) w10a := hov10.by_.conv Tryz.underlying39 Tryz.underlying5 Tryz.underlying9
            refine mix_k hC10 fun Q' hQ' => ?_
            go_wp2_with fail
            refine hQ' _ _ hC10 ?_
            clear hcv11 hQ' Q'
            refine mix_done ?_
            try simp only [Act.put, List.setIfInBounds_toArray, List.set_cons_succ, List.set_cons_zero]
            refine tree_fork1 [true, true, true, true, false, false, false, false, false, false, false, false, false, true] [false, false, false, false, false, false, false, false, false, false, false, false, false, false] (by kernel_rfl) ?_
            simp only [keep]
            repeat (refine mix_w1 ?_; go_big_quiet_step (fail); refine wpQuiet_nil ?_)
            refine mix_load1 hC10 rfl 58 (.tmp 51) rfl naMap ⟨qn, 7, none⟩ _ rfl (fun _ h => h.1) ?_
            simp only [Act.put, List.setIfInBounds_toArray, List.set_cons_succ, List.set_cons_zero]
            repeat (refine mix_w1 ?_; go_big_quiet_step (fail); refine wpQuiet_nil ?_)
            refine mix_t fun Q' hQ' => ?_
            refine wpList_updS rfl (.tmp 52) (.tmp 56) (.tmp 61) 58 rfl Tryz.underlying58 Tryz.underlying9 hM10.map (leB i 4) (.int .i64 ((L1.length : Int) + 1)) rfl rfl rfl ?_
            intro w12a hm12 hk12
            refine hQ' _ _ ?_
            refine mix_done ?_
            try simp only [Act.put, List.setIfInBounds_toArray, List.set_cons_succ, List.set_cons_zero]
            refine tree_last (by kernel_rfl) ?_
            simp only [keep]
            refine mix_done ?_
            obtain ⟨hf1, hf2⟩ := growA hgr hM10 hm12 hk12 hi64 hhid
            have hf3 := hB10.kept' hk12 (fun e => hnm e)
            have hf4 := hK10.trans hk12 (fun k hk e => absurd hk (by have e : k = mn := e; omega))
            have hf5 : ∀ k, fpMp (⟨qn, mp, mn, .slice none 0 0, v4⟩ : Loc) (L1 ++ [⟨g4, cv4, List.replicate (hidN timer) 0 ++ (List.replicate vn 0).drop (hidN timer), true, (hidN timer : Nat), false⟩]) k → k ∈ blM mp v L ∨ w.heap.size ≤ k := fun k hk => by
              rcases hG10 k hk with e | e
              · exact hfp k e
              · exact .inr e
            have hf6 := hn10
            try simp only [Act.put]
            go_wp2_with fail
            go_roundw
            case rel => exact ⟨i + 1, v4, _, by go_num, by omega, hf1, hf2, hf3, hf6, hf5, hf4⟩
            case measure => simp [intOf]; omega
      · simp only [keep]
        repeat (refine mix_w1 ?_; go_big_quiet_step (fail); refine wpQuiet_nil ?_)
        refine mix_load1 hC0 rfl 3 (.tmp 58) rfl naInt ⟨w.heap.size, 2, none⟩ _ rfl (fun _ h => h.2) ?_
        simp only [Act.put, List.setIfInBounds_toArray, List.set_cons_succ, List.set_cons_zero]
        repeat (refine mix_w1 ?_; go_big_quiet_step (fail); refine wpQuiet_nil ?_)
        refine mix_k hC0 fun Q' hQ' => ?_
        go_wp2_with (refine wpList_makeBs (w := wr.drew) rfl (.tmp 59) (.tmp 59) 39 rfl Tryz.underlying39 hU0 hU1 hU2 hU3 vn rfl rfl (by omega) ?_; intro w13a hmk13 hk13)
        have hM13 := hM0.quiet hk13
        have hB13 := hk13.blk (fun h => h) hB0
        have hK13 := hK0.trans hk13 (fun k _ h => h.elim)
        have hC13 : w13a.cell? ⟨qn, 7, none⟩ = some (.map (some mn)) ∧ w13a.cell? ⟨w.heap.size, 2, none⟩ = some (.int .i64 vn) := ⟨hM13.blk.cell 7, hB13.cell 2⟩
        refine hQ' _ _ hC13 ?_
        clear hQ' Q'
        refine mix_done ?_
        try simp only [Act.put, List.setIfInBounds_toArray, List.set_cons_succ, List.set_cons_zero]
        refine tree_fork1 [false, false, false, false, true, true, true, false, false, false, false, false, false, false] [true, true, true, true, false, false, false, true, true, false, false, false, true, true] (by kernel_rfl) ?_
        simp only [keep]
        repeat (refine mix_w1 ?_; go_big_quiet_step (fail); refine wpQuiet_nil ?_)
        refine mix_k hC13 fun Q' hQ' => ?_
        go_wp2_with fail
        refine (little_any i 4 w13a (by omega) (by omega)).mono ?_
        rintro e w14a ⟨ov, rfl, hov14, hovb14, hk14⟩
        have hM14 := hM13.quiet hk14
        have hB14 := hk14.blk (fun h => h) hB13
        have hq14 : ∀ g, ov.ownBlock = some g → ¬ fpMp (⟨qn, mp, mn, .slice none 0 0, v1⟩ : Loc) L1 g ∧ g ≠ w.heap.size ∧ w.heap.size ≤ g := fun g hg => by
          have h1 := hovb14 g hg
          have hz1 := hK13.size
          have hz2 := hB13.lt
          exact ⟨fun e => by have := hM13.lt e; omega, by omega, by omega⟩
        have hK14 := hK13.trans hk14 (fun k _ h => h.elim)
        have hC14 : w14a.cell? ⟨qn, 7, none⟩ = some (.map (some mn)) ∧ w14a.cell? ⟨w.heap.size, 2, none⟩ = some (.int .i64 vn) := ⟨hM14.blk.cell 7, hB14.cell 2⟩
        have hmk14 := hmk13.kept hk14 (fun _ _ h => h)
        go_wp2_with fail
        refine hQ' _ _ hC14 ?_
        clear hQ' Q'
        refine mix_done ?_
        try simp only [Act.put, List.setIfInBounds_toArray, List.set_cons_succ, List.set_cons_zero]
        refine tree_fork2 [false, false, false, false, false, false, false, true, false, false, false, false, false, false] [true, true, true, true, false, false, false, false, true, false, false, false, true, true] [false, false, false, false, false, false, false, false, true, false, false, false, true, false] [true, true, true, true, false, false, false, true, false, false, false, false, false, true] (by kernel_rfl) ?_ ?_
        · simp only [keep]
          repeat (refine mix_w1 ?_; go_big_quiet_step (fail); refine wpQuiet_nil ?_)
          have hcv15 : (convert 39 9 ov).run Tryz.prog w14a = .ok (sV (leB i 4)) w14a := hov14.by_.conv Tryz.underlying39 Tryz.underlying5 Tryz.underlying9
          refine mix_k hC14 fun Q' hQ' => ?_
          go_wp2_with fail
          refine hQ' _ _ hC14 ?_
          clear hcv15 hQ' Q'
          refine mix_done ?_
          try simp only [Act.put, List.setIfInBounds_toArray, List.set_cons_succ, List.set_cons_zero]
          refine tree_fork1 [false, false, false, false, false, false, false, false, true, false, false, false, true, false] [true, true, true, true, false, false, false, false, false, false, false, false, false, true] (by kernel_rfl) ?_
          simp only [keep]
          repeat (refine mix_w1 ?_; go_big_quiet_step (fail); refine wpQuiet_nil ?_)
          refine mix_k hC14 fun Q' hQ' => ?_
          go_wp2_with fail
          refine (fresh_any (⟨qn, mp, mn, .slice none 0 0, v1⟩ : Loc) (⟨⟨1, key, vn, nn, timer, type⟩, entA L.length i, []⟩ : MS) L1 _ (List.replicate vn 0) w14a hM14 hmk14.by_ (by simp; omega) (by simpa using hhid) (by simp; omega) (by have := hgr.len; omega)).mono ?_
          rintro e w16a ⟨rfl, v4, g4, cv4, hM16, hF16, hk16⟩
          have hB16 := hk16.blk (fun e => hn2 (.inr (.inr (.inr e)))) hB14
          have hK16 := hK14.trans hk16 (fun k hk h => (hfp k (.inr (.inr (.inr h)))).resolve_right (by omega))
          have hC16 : w16a.cell? ⟨qn, 7, none⟩ = some (.map (some mn)) ∧ w16a.cell? ⟨w.heap.size, 2, none⟩ = some (.int .i64 vn) := ⟨hM16.blk.cell 7, hB16.cell 2⟩
          have hz16 : w.heap.size ≤ w14a.heap.size := hK14.size
          have hG16 : ∀ k, fpMp (⟨qn, mp, mn, .slice none 0 0, v4⟩ : Loc) (L1 ++ [⟨g4, cv4, List.replicate (hidN timer) 0 ++ (List.replicate vn 0).drop (hidN timer), true, (hidN timer : Nat), false⟩]) k → fpMp (⟨qn, mp, mn, .slice none 0 0, v1⟩ : Loc) L1 k ∨ w.heap.size ≤ k := fun k hk => (hF16 k hk).imp (fun h => h) (fun h => Nat.le_trans hz16 h)
          have hn16 : ¬ fpMp (⟨qn, mp, mn, .slice none 0 0, v4⟩ : Loc) (L1 ++ [⟨g4, cv4, List.replicate (hidN timer) 0 ++ (List.replicate vn 0).drop (hidN timer), true, (hidN timer : Nat), false⟩]  ) w.heap.size := fun e => by
            rcases hF16 _ e with e | e
            · exact hn2 e
            · have := hB14.lt; omega
          have hov16 := hov14.kept hk16 (fun g hg e => (hq14 g hg).1 (.inr (.inr (.inr e))))
          go_wp2_with fail
          refine hQ' _ _ hC16 ?_
          clear hQ' Q'
          refine mix_done ?_
          try simp only [Act.put, List.setIfInBounds_toArray, List.set_cons_succ, List.set_cons_zero]
          refine tree_fork1 [true, true, true, true, false, false, false, false, false, false, false, false, false, true] [false, false, false, false, false, false, false, false, false, false, false, false, false, false] (by kernel_rfl) ?_
          simp only [keep]
          repeat (refine mix_w1 ?_; go_big_quiet_step (fail); refine wpQuiet_nil ?_)
          refine mix_load1 hC16 rfl 58 (.tmp 51) rfl naMap ⟨qn, 7, none⟩ _ rfl (fun _ h => h.1) ?_
          simp only [Act.put, List.setIfInBounds_toArray, List.set_cons_succ, List.set_cons_zero]
          repeat (refine mix_w1 ?_; go_big_quiet_step (fail); refine wpQuiet_nil ?_)
          refine mix_t fun Q' hQ' => ?_
          refine wpList_updS rfl (.tmp 52) (.tmp 56) (.tmp 61) 58 rfl Tryz.underlying58 Tryz.underlying9 hM16.map (leB i 4) (.int .i64 ((L1.length : Int) + 1)) rfl rfl rfl ?_
          intro w17a hm17 hk17
          refine hQ' _ _ ?_
          refine mix_done ?_
          try simp only [Act.put, List.setIfInBounds_toArray, List.set_cons_succ, List.set_cons_zero]
          refine tree_last (by kernel_rfl) ?_
          simp only [keep]
          refine mix_done ?_
          obtain ⟨hf1, hf2⟩ := growA hgr hM16 hm17 hk17 hi64 hhid
          have hf3 := hB16.kept' hk17 (fun e => hnm e)
          have hf4 := hK16.trans hk17 (fun k hk e => absurd hk (by have e : k = mn := e; omega))
          have hf5 : ∀ k, fpMp (⟨qn, mp, mn, .slice none 0 0, v4⟩ : Loc) (L1 ++ [⟨g4, cv4, List.replicate (hidN timer) 0 ++ (List.replicate vn 0).drop (hidN timer), true, (hidN timer : Nat), false⟩]) k → k ∈ blM mp v L ∨ w.heap.size ≤ k := fun k hk => by
            rcases hG16 k hk with e | e
            · exact hfp k e
            · exact .inr e
          have hf6 := hn16
          try simp only [Act.put]
          go_wp2_with fail
          go_roundw
          case rel => exact ⟨i + 1, v4, _, by go_num, by omega, hf1, hf2, hf3, hf6, hf5, hf4⟩
          case measure => simp [intOf]; omega
        · simp only [keep]
          repeat (refine mix_w1 ?_; go_big_quiet_step (fail); refine wpQuiet_nil ?_)
          refine mix_k hC14 fun Q' hQ' => ?_
          go_wp2_with fail
          refine (fresh_any (⟨qn, mp, mn, .slice none 0 0, v1⟩ : Loc) (⟨⟨1, key, vn, nn, timer, type⟩, entA L.length i, []⟩ : MS) L1 _ (List.replicate vn 0) w14a hM14 hmk14.by_ (by simp; omega) (by simpa using hhid) (by simp; omega) (by have := hgr.len; omega)).mono ?_
          rintro e w18a ⟨rfl, v4, g4, cv4, hM18, hF18, hk18⟩
          have hB18 := hk18.blk (fun e => hn2 (.inr (.inr (.inr e)))) hB14
          have hK18 := hK14.trans hk18 (fun k hk h => (hfp k (.inr (.inr (.inr h)))).resolve_right (by omega))
          have hC18 : w18a.cell? ⟨qn, 7, none⟩ = some (.map (some mn)) ∧ w18a.cell? ⟨w.heap.size, 2, none⟩ = some (.int .i64 vn) := ⟨hM18.blk.cell 7, hB18.cell 2⟩
          have hz18 : w.heap.size ≤ w14a.heap.size := hK14.size
          have hG18 : ∀ k, fpMp (⟨qn, mp, mn, .slice none 0 0, v4⟩ : Loc) (L1 ++ [⟨g4, cv4, List.replicate (hidN timer) 0 ++ (List.replicate vn 0).drop (hidN timer), true, (hidN timer : Nat), false⟩]) k → fpMp (⟨qn, mp, mn, .slice none 0 0, v1⟩ : Loc) L1 k ∨ w.heap.size ≤ k := fun k hk => (hF18 k hk).imp (fun h => h) (fun h => Nat.le_trans hz18 h)
          have hn18 : ¬ fpMp (⟨qn, mp, mn, .slice none 0 0, v4⟩ : Loc) (L1 ++ [⟨g4, cv4, List.replicate (hidN timer) 0 ++ (List.replicate vn 0).drop (hidN timer), true, (hidN timer : Nat), false⟩]  ) w.heap.size := fun e => by
            rcases hF18 _ e with e | e
            · exact hn2 e
            · have := hB14.lt; omega
          have hov18 := hov14.kept hk18 (fun g hg e => (hq14 g hg).1 (.inr (.inr (.inr e))))
          go_wp2_with fail
          refine hQ' _ _ hC18 ?_
          clear hQ' Q'
          refine mix_done ?_
          try simp only [Act.put, List.setIfInBounds_toArray, List.set_cons_succ, List.set_cons_zero]
          refine tree_fork1 [false, false, false, false, false, false, false, true, false, false, false, false, false, false] [true, true, true, true, false, false, false, false, false, false, false, false, false, true] (by kernel_rfl) ?_
          simp only [keep]
          repeat (refine mix_w1 ?_; go_big_quiet_step (fail); refine wpQuiet_nil ?_)
          have hcv19 : (convert 39 9 ov).run Tryz.prog w18a = .ok (sV (leB i 4)) w18a := hov18.by_.conv Tryz.underlying39 Tryz.underlying5 Tryz.underlying9
          refine mix_k hC18 fun Q' hQ' => ?_
          go_wp2_with fail
          refine hQ' _ _ hC18 ?_
          clear hcv19 hQ' Q'
          refine mix_done ?_
          try simp only [Act.put, List.setIfInBounds_toArray, List.set_cons_succ, List.set_cons_zero]
          refine tree_fork1 [true, true, true, true, false, false, false, false, false, false, false, false, false, true] [false, false, false, false, false, false, false, false, false, false, false, false, false, false] (by kernel_rfl) ?_
          simp only [keep]
          repeat (refine mix_w1 ?_; go_big_quiet_step (fail); refine wpQuiet_nil ?_)
          refine mix_load1 hC18 rfl 58 (.tmp 51) rfl naMap ⟨qn, 7, none⟩ _ rfl (fun _ h => h.1) ?_
          simp only [Act.put, List.setIfInBounds_toArray, List.set_cons_succ, List.set_cons_zero]
          repeat (refine mix_w1 ?_; go_big_quiet_step (fail); refine wpQuiet_nil ?_)
          refine mix_t fun Q' hQ' => ?_
          refine wpList_updS rfl (.tmp 52) (.tmp 56) (.tmp 61) 58 rfl Tryz.underlying58 Tryz.underlying9 hM18.map (leB i 4) (.int .i64 ((L1.length : Int) + 1)) rfl rfl rfl ?_
          intro w20a hm20 hk20
          refine hQ' _ _ ?_
          refine mix_done ?_
          try simp only [Act.put, List.setIfInBounds_toArray, List.set_cons_succ, List.set_cons_zero]
          refine tree_last (by kernel_rfl) ?_
          simp only [keep]
          refine mix_done ?_
          obtain ⟨hf1, hf2⟩ := growA hgr hM18 hm20 hk20 hi64 hhid
          have hf3 := hB18.kept' hk20 (fun e => hnm e)
          have hf4 := hK18.trans hk20 (fun k hk e => absurd hk (by have e : k = mn := e; omega))
          have hf5 : ∀ k, fpMp (⟨qn, mp, mn, .slice none 0 0, v4⟩ : Loc) (L1 ++ [⟨g4, cv4, List.replicate (hidN timer) 0 ++ (List.replicate vn 0).drop (hidN timer), true, (hidN timer : Nat), false⟩]) k → k ∈ blM mp v L ∨ w.heap.size ≤ k := fun k hk => by
            rcases hG18 k hk with e | e
            · exact hfp k e
            · exact .inr e
          have hf6 := hn18
          try simp only [Act.put]
          go_wp2_with fail
          go_roundw
          case rel => exact ⟨i + 1, v4, _, by go_num, by omega, hf1, hf2, hf3, hf6, hf5, hf4⟩
          case measure => simp [intOf]; omega

end Go.Proofs.YtahabogjfcdjkaaGreat
