import Derived.Test.YtmgdjiplpfeoiaaDoorYb
import Derived.Test.YtmgdjiplpfeoiaaDoorTm
import Derived.Outline
import Derived.Deep.DeepCutAuto
import Derived.Deep.CutBlock
set_option linter.unusedSimpArgs false
set_option linter.unusedVariables false
namespace Go.Proofs.YtmgdjiplpfeoiaaDoor
open Go.RowKit

theorem u8_cell (n : Int) (s : List UInt8) : [lowB n].length = 1 ∧ (bcells [lowB n]) = [.int .u8 (n % 256)] := by
  refine ⟨rfl, ?_⟩
  simp [bcells, u8_toNat]
theorem b4_cells (n : Int) : bcells (b4 n) = [.int .u8 (n % 256), .int .u8 (n / 256 % 256), .int .u8 (n / 65536 % 256), .int .u8 (n / 16777216 % 256)] := by
  simp [bcells, b4, u8_toNat]

theorem four_cells (n : Int) : [Value.int .u8 (n % 256), .int .u8 (n % 4294967296 / 256 % 256), .int .u8 (n % 4294967296 / 65536 % 256), .int .u8 (n % 4294967296 / 16777216)] = [.int .u8 (n % 256), .int .u8 (n / 256 % 256), .int .u8 (n / 65536 % 256), .int .u8 (n / 16777216 % 256)] := by
  rw [show n % 4294967296 / 256 % 256 = n / 256 % 256 by omega, show n % 4294967296 / 65536 % 256 = n / 65536 % 256 by omega, show n % 4294967296 / 16777216 = n / 16777216 % 256 by omega]
/-- two appends, one behind the other -/
theorem grow_trans {w w5 w6 : World} {v v5 v6 : Value} (h1 : Kept (fun k => v.ownBlock = some k) w w5) (h2 : ∀ g, v5.ownBlock = some g → v.ownBlock = some g ∨ w.heap.size ≤ g)
    (h3 : Kept (fun k => v5.ownBlock = some k) w5 w6) (h4 : ∀ g, v6.ownBlock = some g → v5.ownBlock = some g ∨ w5.heap.size ≤ g) :
    Kept (fun k => v.ownBlock = some k) w w6 ∧ (∀ g, v6.ownBlock = some g → v.ownBlock = some g ∨ w.heap.size ≤ g) := by
  refine ⟨h1.trans h3 (fun k hk e => (h2 k e).resolve_right (by omega)), fun g hg => ?_⟩
  rcases h4 g hg with e | e
  · exact h2 g e
  · have := h1.size
    exact .inr (by omega)

set_option maxHeartbeats 1000000 in
set_option maxRecDepth 100000 in
theorem nameBy_any (s : List UInt8) (w : World) (hs : s.length ≤ 1099511627000) :
    Calls Tryd.prog 59 #[nV s] w fun e w' => ∃ ov, e = .returned ov ∧ OB w.heap.size w' ov (nmB s) ∧ Kept (fun _ => False) w w' := by
  obtain ⟨i0, hI0, hI1, hI2, hI3⟩ := info_parts infoU8
  have hsz := nV_size s
  have hO := OB.ofNew w.heap.size w [lowB s.length] (Nat.le_refl _) (by unfold maxLen; simp)
  rw [(u8_cell s.length s).2] at hO
  have HO := Lib.hid hO
  clear hO
  go_enter Tryd.func59, Tryd.ntmps59
  go_wp2_with (at_builtin; refine wpList_obStr rfl (.tmp 6) (.tmp 7) 35 9 rfl Tryd.underlying35 Tryd.underlying9 hI0 hI1 hI2 hI3 w.heap.size _ [lowB s.length] s rfl rfl HO.out (by simp; omega) (by simp) ?_; intro v5 w5 hO5 hk5 hw5)
  go_ret
  exact ⟨_, rfl, hO5, HO.out.step ((Kept.refl _ w).alloc _) hk5⟩

set_option maxHeartbeats 1000000 in
set_option maxRecDepth 100000 in
theorem four_any (B : Nat) (v : Value) (X : List UInt8) (n : Int) (w : World) (h : OB B w v X) (hX : X.length ≤ 1099511627000) (hB : B ≤ w.heap.size) :
    Calls Tryd.prog 42 #[v, .int .i64 n] w fun e w' => ∃ ov, e = .returned ov ∧ OB B w' ov (X ++ b4 n) ∧ Kept (fun k => v.ownBlock = some k) w w' ∧ (∀ g, ov.ownBlock = some g → v.ownBlock = some g ∨ w.heap.size ≤ g) := by
  obtain ⟨i0, hI0, hI1, hI2, hI3⟩ := info_parts infoU8
  have hc := b4_cells n
  have HC := Lib.hid hc
  clear hc
  go_enter Tryd.func42, Tryd.ntmps42
  go_wp2_with (at_builtin; refine wpList_obNew (w := w) rfl (.tmp 8) (.tmp 20) 35 rfl Tryd.underlying35 hI0 hI1 hI2 hI3 rfl B v X (b4 n) _ (by rw [HC.out, ← four_cells]) 4 rfl rfl rfl h (by simp [b4_len]; omega) hB ?_; intro v5 w5 hO5 hk5 hw5)
  go_ret
  exact ⟨_, rfl, hO5, hk5, hw5⟩

set_option maxHeartbeats 1000000 in
set_option maxRecDepth 100000 in
theorem refnameBy_any (B : Nat) (v : Value) (X : List UInt8) (s : List UInt8) (w : World) (h : OB B w v X) (hX : X.length + s.length ≤ 1099511627000) (hB : B ≤ w.heap.size) :
    Calls Tryd.prog 43 #[v, nV s] w fun e w' => ∃ ov, e = .returned ov ∧ OB B w' ov (X ++ nmB s) ∧ Kept (fun k => v.ownBlock = some k) w w' ∧ (∀ g, ov.ownBlock = some g → v.ownBlock = some g ∨ w.heap.size ≤ g) := by
  obtain ⟨i0, hI0, hI1, hI2, hI3⟩ := info_parts infoU8
  have hsz := nV_size s
  have hc := (u8_cell s.length s).2
  have HC := Lib.hid hc
  clear hc
  go_enter Tryd.func43, Tryd.ntmps43
  go_wp2_with first
    | (at_builtin; refine wpList_obNew (w := w) rfl (.tmp 5) (.tmp 9) 35 rfl Tryd.underlying35 hI0 hI1 hI2 hI3 rfl B v X [lowB s.length] _ (by rw [HC.out]) 1 rfl rfl rfl h (by simp; omega) hB ?_; intro v5 w5 hO5 hk5 hw5; have hB5 := Nat.le_trans hB hk5.size)
    | (at_builtin; refine wpList_obStr (w := w5) rfl (.tmp 10) (.tmp 11) 35 9 rfl Tryd.underlying35 Tryd.underlying9 hI0 hI1 hI2 hI3 B v5 (X ++ [lowB s.length]) s rfl rfl hO5 (by simp; omega) hB5 ?_; intro v6 w6 hO6 hk6 hw6)
  go_ret
  rw [List.append_assoc] at hO6
  exact ⟨_, rfl, hO6, grow_trans hk5 hw5 hk6 hw6⟩

end Go.Proofs.YtmgdjiplpfeoiaaDoor
set_option linter.unusedSimpArgs false
set_option linter.unusedVariables false
namespace Go.Proofs.YtmgdjiplpfeoiaaDoor
open Go.RowKit

/-! ### a type's bytes -/
def mbB (m : Mb) : List UInt8 := nmB m.name ++ b4 m.type ++ b4 m.bits
def hdB (t : Ty) : List UInt8 := [lowB t.kind] ++ nmB t.name ++ b4 t.size ++ [if t.signed then 1 else 0]
def n3B (t : Ty) : List UInt8 := b4 t.to ++ b4 t.count ++ b4 t.mem.length
def tyB (t : Ty) : List UInt8 := hdB t ++ n3B t ++ (t.mem.map mbB).flatten
theorem naInt : ∀ w, (isAgg 3).run Tryd.prog w = .ok false w := fun w => by kernel_rfl
theorem naStr : ∀ w, (isAgg 9).run Tryd.prog w = .ok false w := fun w => by kernel_rfl
theorem arrIx0 (a b c : Int) (w : World) : (Instr.index 97 (.agg #[.int .i64 a, .int .i64 b, .int .i64 c]) (.int .i64 0)).run Tryd.prog w = .ok (.int .i64 a) w := by kernel_rfl
theorem arrIx1 (a b c : Int) (w : World) : (Instr.index 97 (.agg #[.int .i64 a, .int .i64 b, .int .i64 c]) (.int .i64 1)).run Tryd.prog w = .ok (.int .i64 b) w := by kernel_rfl
theorem arrIx2 (a b c : Int) (w : World) : (Instr.index 97 (.agg #[.int .i64 a, .int .i64 b, .int .i64 c]) (.int .i64 2)).run Tryd.prog w = .ok (.int .i64 c) w := by kernel_rfl
def n3L (t : Ty) : List Int := [t.to, t.count, (t.mem.length : Int)]
theorem mbB_len {m : Mb} (h : m.name.length ≤ 1000) : (mbB m).length ≤ 1010 := by simp [mbB, nmB, b4_len]; omega
theorem flat_len {l : List Mb} (h : ∀ m ∈ l, m.name.length ≤ 1000) : ((l.map mbB).flatten).length ≤ l.length * 1010 := by
  induction l with
  | nil => simp
  | cons m l ih =>
    have h1 := mbB_len (h m (List.mem_cons_self ..))
    have h2 := ih (fun x hx => h x (List.mem_cons_of_mem _ hx))
    simp only [List.map_cons, List.flatten_cons, List.length_append, List.length_cons]
    omega
theorem take_flat {l : List Mb} {k : Nat} {m : Mb} (h : l[k]? = some m) : ((l.take (k + 1)).map mbB).flatten = ((l.take k).map mbB).flatten ++ mbB m := by
  rw [List.take_add_one, h]
  simp

set_option maxHeartbeats 4000000 in
set_option maxRecDepth 100000 in
theorem encoded_any (t : Ty) (ma : Option Addr) (mc : Nat) (w : World) (hm : Mbs w (.slice ma t.mem.length mc) t.mem) (h64 : t.mem.length ≤ 64) (hnm : t.name.length ≤ 1000) (hmn : ∀ m ∈ t.mem, m.name.length ≤ 1000) :
    Calls Tryd.prog 40 #[.agg (tyVals t (.slice ma t.mem.length mc))] w fun e w' => ∃ ov, e = .returned ov ∧ OB w.heap.size w' ov (tyB t) ∧ Kept (fun _ => False) w w' := by
  obtain ⟨i0, hI0, hI1, hI2, hI3⟩ := info_parts infoU8
  have hBt := Blk.new w 38 (tyVals t (.slice ma t.mem.length mc))
  have hK1 : Kept (fun _ => False) w (w.alloc (.cells (tyVals t (.slice ma t.mem.length mc)) 38)) := (Kept.refl _ w).alloc _
  have hm1 := hm.kept hK1
  go_enter Tryd.func40, Tryd.ntmps40
  go_upto_region 1 with fail
  generalize w.alloc (.cells (tyVals t (.slice ma t.mem.length mc)) 38) = w1 at *
  go_cut [3] (fun ov wx => OB w1.heap.size wx ov ([lowB t.kind] ++ nmB t.name) ∧ Kept (fun _ => False) w1 wx)
  case first =>
    as_aux_lemma =>
    have hB0 : Blk w1.drew w.heap.size 38 (tyVals t (.slice ma t.mem.length mc)) := hBt
    have hC0 : w1.drew.cell? ⟨w.heap.size, 0, none⟩ = some (.int .i64 t.kind) ∧ w1.drew.cell? ⟨w.heap.size, 1, none⟩ = some (nV t.name) := ⟨hBt.cell 0, hBt.cell 1⟩
    have hk0 : Kept (fun _ => False) w1 w1.drew := (Kept.refl _ w1).drew
    refine wp_region_tree [.w, .l, .w, .k, .w, .l, .k, .t, .w] (fun w' => w'.cell? ⟨w.heap.size, 0, none⟩ = some (.int .i64 t.kind) ∧ w'.cell? ⟨w.heap.size, 1, none⟩ = some (nV t.name)) [true, true, true, true, true, true, true, true, true] (by kernel_rfl) (by kernel_rfl) (by kernel_rfl) ?_
    refine tree_fork2 [true, true, true, true, false, false, false, false, false] [false, false, false, false, true, true, true, true, true] [false, false, false, false, true, true, true, false, false] [true, true, true, true, false, false, false, true, true] (by kernel_rfl) ?_ ?_
    · simp only [keep]
      repeat (refine mix_w1 ?_; go_big_quiet_step (fail); refine wpQuiet_nil ?_)
      refine mix_load1 hC0 rfl 3 (.tmp 9) rfl naInt ⟨w.heap.size, 0, none⟩ _ rfl (fun _ h => h.1) ?_
      try simp only [Act.put, List.setIfInBounds_toArray, List.set_cons_succ, List.set_cons_zero]
      repeat (refine mix_w1 ?_; go_big_quiet_step (fail); refine wpQuiet_nil ?_)
      refine mix_k hC0 fun Q' hQ' => ?_
      go_wp2_with fail
      have hB1 := hK1.size
      have hO1 : OB w1.heap.size (w1.drew.alloc (.cells #[.int .u8 (t.kind % 256)] 5)) (.slice (some ⟨w1.drew.heap.size, 0, none⟩) 1 1) [lowB t.kind] := by
        have := OB.ofNew w1.heap.size w1.drew [lowB t.kind] hk0.size (by unfold maxLen; simp)
        rw [(u8_cell t.kind []).2] at this
        exact this
      have hC1 : (w1.drew.alloc (.cells #[.int .u8 (t.kind % 256)] 5)).cell? ⟨w.heap.size, 0, none⟩ = some (.int .i64 t.kind) ∧ (w1.drew.alloc (.cells #[.int .u8 (t.kind % 256)] 5)).cell? ⟨w.heap.size, 1, none⟩ = some (nV t.name) := ⟨(hB0.alloc _).cell 0, (hB0.alloc _).cell 1⟩
      refine hQ' _ _ hC1 ?_
      clear hQ' Q'
      refine mix_done ?_
      try simp only [Act.put, List.setIfInBounds_toArray, List.set_cons_succ, List.set_cons_zero]
      refine tree_fork1 [false, false, false, false, true, true, true, false, false] [false, false, false, false, false, false, false, true, true] (by kernel_rfl) ?_
      simp only [keep]
      repeat (refine mix_w1 ?_; go_big_quiet_step (fail); refine wpQuiet_nil ?_)
      refine mix_load1 hC1 rfl 9 (.tmp 13) rfl naStr ⟨w.heap.size, 1, none⟩ _ rfl (fun _ h => h.2) ?_
      try simp only [Act.put, List.setIfInBounds_toArray, List.set_cons_succ, List.set_cons_zero]
      repeat (refine mix_w1 ?_; go_big_quiet_step (fail); refine wpQuiet_nil ?_)
      refine mix_k hC1 fun Q' hQ' => ?_
      go_wp2_with fail
      refine (nameBy_any t.name (w1.drew.alloc (.cells #[.int .u8 (t.kind % 256)] 5)) (by omega)).mono ?_
      rintro e wn ⟨nv, rfl, hN, hkn⟩
      have hBn := hkn.blk (fun h => h) (hB0.alloc _)
      have hCn : wn.cell? ⟨w.heap.size, 0, none⟩ = some (.int .i64 t.kind) ∧ wn.cell? ⟨w.heap.size, 1, none⟩ = some (nV t.name) := ⟨hBn.cell 0, hBn.cell 1⟩
      go_wp2_with fail
      refine hQ' _ _ hCn ?_
      clear hQ' Q'
      refine mix_done ?_
      try simp only [Act.put, List.setIfInBounds_toArray, List.set_cons_succ, List.set_cons_zero]
      refine tree_fork1 [false, false, false, false, false, false, false, true, false] [false, false, false, false, false, false, false, false, true] (by kernel_rfl) ?_
      have hO2 := hO1.quiet hkn
      have hN2 := hN
      have hk3 : Kept (fun _ => False) w1 wn := (hk0.alloc _).trans hkn (fun _ _ h => h)
      simp only [keep]
      repeat (refine mix_w1 ?_; go_big_quiet_step (fail); refine wpQuiet_nil ?_)
      refine mix_t fun Q' hQ' => ?_
      refine wpList_obApp (w := wn) rfl (.tmp 12) (.tmp 15) 35 rfl Tryd.underlying35 hI0 hI1 hI2 hI3 rfl w1.heap.size _ _ [lowB t.kind] (nmB t.name) rfl rfl hO2 (hN2).by_ (by simp [nmB]; omega) hk3.size ?_
      intro v5 w5 hO5 hk5 hw5
      refine hQ' _ _ ?_
      refine mix_done ?_
      try simp only [Act.put, List.setIfInBounds_toArray, List.set_cons_succ, List.set_cons_zero]
      refine tree_last (by kernel_rfl) ?_
      simp only [keep]
      repeat (refine mix_w1 ?_; go_big_quiet_step (fail); refine wpQuiet_nil ?_)
      refine mix_done ?_
      try simp only [Act.put]
      go_wp2_with fail
      go_meet
      exact ⟨hO5, hO2.step hk3 hk5⟩
    · simp only [keep]
      repeat (refine mix_w1 ?_; go_big_quiet_step (fail); refine wpQuiet_nil ?_)
      refine mix_load1 hC0 rfl 9 (.tmp 13) rfl naStr ⟨w.heap.size, 1, none⟩ _ rfl (fun _ h => h.2) ?_
      try simp only [Act.put, List.setIfInBounds_toArray, List.set_cons_succ, List.set_cons_zero]
      repeat (refine mix_w1 ?_; go_big_quiet_step (fail); refine wpQuiet_nil ?_)
      refine mix_k hC0 fun Q' hQ' => ?_
      go_wp2_with fail
      refine (nameBy_any t.name w1.drew (by omega)).mono ?_
      rintro e wn ⟨nv, rfl, hN, hkn⟩
      have hBn := hkn.blk (fun h => h) hB0
      have hCn : wn.cell? ⟨w.heap.size, 0, none⟩ = some (.int .i64 t.kind) ∧ wn.cell? ⟨w.heap.size, 1, none⟩ = some (nV t.name) := ⟨hBn.cell 0, hBn.cell 1⟩
      go_wp2_with fail
      refine hQ' _ _ hCn ?_
      clear hQ' Q'
      refine mix_done ?_
      try simp only [Act.put, List.setIfInBounds_toArray, List.set_cons_succ, List.set_cons_zero]
      have hk3 : Kept (fun _ => False) w1 wn := hk0.trans hkn (fun _ _ h => h)
      refine tree_fork1 [true, true, true, true, false, false, false, false, false] [false, false, false, false, false, false, false, true, true] (by kernel_rfl) ?_
      simp only [keep]
      repeat (refine mix_w1 ?_; go_big_quiet_step (fail); refine wpQuiet_nil ?_)
      refine mix_load1 hCn rfl 3 (.tmp 9) rfl naInt ⟨w.heap.size, 0, none⟩ _ rfl (fun _ h => h.1) ?_
      try simp only [Act.put, List.setIfInBounds_toArray, List.set_cons_succ, List.set_cons_zero]
      repeat (refine mix_w1 ?_; go_big_quiet_step (fail); refine wpQuiet_nil ?_)
      refine mix_k hCn fun Q' hQ' => ?_
      go_wp2_with fail
      have hB1 := hK1.size
      have hO1 : OB w1.heap.size (wn.alloc (.cells #[.int .u8 (t.kind % 256)] 5)) (.slice (some ⟨wn.heap.size, 0, none⟩) 1 1) [lowB t.kind] := by
        have := OB.ofNew w1.heap.size wn [lowB t.kind] hk3.size (by unfold maxLen; simp)
        rw [(u8_cell t.kind []).2] at this
        exact this
      have hC1 : (wn.alloc (.cells #[.int .u8 (t.kind % 256)] 5)).cell? ⟨w.heap.size, 0, none⟩ = some (.int .i64 t.kind) ∧ (wn.alloc (.cells #[.int .u8 (t.kind % 256)] 5)).cell? ⟨w.heap.size, 1, none⟩ = some (nV t.name) := ⟨(hBn.alloc _).cell 0, (hBn.alloc _).cell 1⟩
      refine hQ' _ _ hC1 ?_
      clear hQ' Q'
      refine mix_done ?_
      try simp only [Act.put, List.setIfInBounds_toArray, List.set_cons_succ, List.set_cons_zero]
      refine tree_fork1 [false, false, false, false, false, false, false, true, false] [false, false, false, false, false, false, false, false, true] (by kernel_rfl) ?_
      have hN2 := hN.alloc (.cells #[.int .u8 (t.kind % 256)] 5)
      have hk4 : Kept (fun _ => False) w1 (wn.alloc (.cells #[.int .u8 (t.kind % 256)] 5)) := hk3.alloc _
      simp only [keep]
      repeat (refine mix_w1 ?_; go_big_quiet_step (fail); refine wpQuiet_nil ?_)
      refine mix_t fun Q' hQ' => ?_
      refine wpList_obApp (w := (wn.alloc (.cells #[.int .u8 (t.kind % 256)] 5))) rfl (.tmp 12) (.tmp 15) 35 rfl Tryd.underlying35 hI0 hI1 hI2 hI3 rfl w1.heap.size _ _ [lowB t.kind] (nmB t.name) rfl rfl hO1 (hN2).by_ (by simp [nmB]; omega) hk4.size ?_
      intro v5 w5 hO5 hk5 hw5
      refine hQ' _ _ ?_
      refine mix_done ?_
      try simp only [Act.put, List.setIfInBounds_toArray, List.set_cons_succ, List.set_cons_zero]
      refine tree_last (by kernel_rfl) ?_
      simp only [keep]
      repeat (refine mix_w1 ?_; go_big_quiet_step (fail); refine wpQuiet_nil ?_)
      refine mix_done ?_
      try simp only [Act.put]
      go_wp2_with fail
      go_meet
      exact ⟨hO5, hO1.step hk4 hk5⟩
  case rest =>
  obtain ⟨hO, hK⟩ := hcut
  have hB1 := hK.blk (fun h => h) hBt
  have hc2 := hB1.cell 2
  have hc3 := hB1.cell 3
  have hc4 := hB1.cell 4
  have hc5 := hB1.cell 5
  have hc6 := hB1.cell 6
  have hX : ([lowB t.kind] ++ nmB t.name).length ≤ 1100 := by simp [nmB]; omega
  generalize hXe : [lowB t.kind] ++ nmB t.name = X at *
  go_upto_region 2 with fail
  go_cut [3] (fun ov wx => OB w1.heap.size wx ov (X ++ b4 t.size) ∧ Kept (fun _ => False) w1 wx)
  case first =>
    as_aux_lemma =>
    go_wp2_with fail
    refine (number_any t.size wc).mono ?_
    rintro e w3 ⟨nv, rfl, hN, hk3⟩
    have hk3' := hK.trans hk3 (fun _ _ h => h)
    go_wp2_with (at_builtin; refine wpList_obApp (w := w3) rfl (.tmp 17) (.tmp 20) 35 rfl Tryd.underlying35 hI0 hI1 hI2 hI3 rfl w1.heap.size _ _ X (b4 t.size) rfl rfl (hO.quiet hk3) hN.by_ (by simp [b4_len]; omega) hk3'.size ?_; intro v5 w5 hO5 hk5 hw5)
    go_meet
    exact ⟨hO5, (hO.quiet hk3).step hk3' hk5⟩
  case rest =>
  clear hO hK hB1 hc2 hc3 hc4 hc5 hc6
  obtain ⟨hO, hK⟩ := hcut
  have hB1 := hK.blk (fun h => h) hBt
  have hc3 := hB1.cell 3
  have hc4 := hB1.cell 4
  have hc5 := hB1.cell 5
  have hc6 := hB1.cell 6
  have hX2 : (X ++ b4 t.size).length ≤ 1200 := by simp [b4_len]; omega
  generalize hXe2 : X ++ b4 t.size = X2 at *
  obtain ⟨fl, hfl⟩ : ∃ fl : UInt8, fl = if t.signed = true then 1 else 0 := ⟨_, rfl⟩
  have HFL := Lib.hid hfl
  clear hfl
  go_upto_if 23 with fail
  go_cut [4] (fun fv wx => fv = .int .u8 (fl.toNat : Int) ∧ wc = wx)
  case first =>
    as_aux_lemma =>
    generalize t.signed = sg at *
    cases sg
    all_goals
      go_wp2_with fail
      go_meet
      exact ⟨by rw [HFL.out]; rfl, rfl⟩
  case rest =>
  obtain ⟨rfl, rfl⟩ := hcut
  go_upto_region 6 with fail
  go_cut [3] (fun ov wx => OB w1.heap.size wx ov (X2 ++ [fl]) ∧ Kept (fun _ => False) w1 wx)
  case first =>
    as_aux_lemma =>
    go_wp2_with (at_builtin; (refine wpList_obNew (w := wc) rfl (.tmp 24) (.tmp 26) 35 rfl Tryd.underlying35 hI0 hI1 hI2 hI3 rfl w1.heap.size _ X2 [fl] _ (by rfl) 1 (by rfl) rfl rfl hO (by simp; omega) hK.size ?_; intro v5 w5 hO5 hk5 hw5))
    go_meet
    exact ⟨hO5, hO.step hK hk5⟩
  case rest =>
  clear hO hK hB1 hc3 hc4 hc5 hc6
  obtain ⟨hO, hK⟩ := hcut
  have hB1 := hK.blk (fun h => h) hBt
  have hc4 := hB1.cell 4
  have hc5 := hB1.cell 5
  have hc6 := hB1.cell 6
  have hX3 : (X2 ++ [fl]).length ≤ 1300 := by simp; omega
  have hXe3 : hdB t = X2 ++ [fl] := by rw [← hXe2, ← hXe, HFL.out]; rfl
  clear hXe hXe2 HFL
  generalize X2 ++ [fl] = X3 at *
  go_wp2_with fail
  obtain ⟨W0, rfl⟩ : ∃ W0 : World, W0 = wc := ⟨_, rfl⟩
  go_loopw [3, 36] (fun ov iv wr => ∃ k : Nat, iv = .int .i64 k ∧ k ≤ 3 ∧ OB w1.heap.size wr ov (X3 ++ (((n3L t).take k).map b4).flatten) ∧ Kept (fun _ => False) w1 wr) (fun _ iv _ => 3 - (intOf iv).toNat)
  case atStart => exact ⟨0, rfl, by omega, by simpa using hO, hK⟩
  case round =>
    clear hO hK hB1 hc4 hc5 hc6
    obtain ⟨k, rfl, hk, hO, hK⟩ := hrel
    by_cases hlt : k < 3
    case pos =>
      as_aux_lemma =>
      obtain ⟨z, hz⟩ : ∃ z, (n3L t)[k]? = some z := ⟨_, List.getElem?_eq_getElem (by simp [n3L]; omega)⟩
      have hnx : (X3 ++ (((n3L t).take k).map b4).flatten) ++ b4 z = X3 ++ (((n3L t).take (k + 1)).map b4).flatten := by
        rw [List.take_add_one, hz]
        simp
      have hl3 : (X3 ++ (((n3L t).take k).map b4).flatten).length ≤ 1500 := by
        rcases (by omega : k = 0 ∨ k = 1 ∨ k = 2) with rfl | rfl | rfl <;> simp [n3L, b4_len] <;> omega
      generalize X3 ++ (((n3L t).take k).map b4).flatten = Y at *
      have HNX := Lib.hid hnx
      clear hnx
      rcases (by omega : k = 0 ∨ k = 1 ∨ k = 2) with rfl | rfl | rfl
      all_goals
        simp [n3L] at hz
        subst hz
        have hx0 := arrIx0 t.to t.count t.mem.length wr
        have hx1 := arrIx1 t.to t.count t.mem.length wr
        have hx2 := arrIx2 t.to t.count t.mem.length wr
        go_wp2_with fail
        refine (number_any _ wr).mono ?_
        rintro e w3 ⟨nv, rfl, hN, hk3⟩
        have hk3' := hK.trans hk3 (fun _ _ h => h)
        go_wp2_with (at_builtin; refine wpList_obApp (w := w3) rfl (.tmp 39) (.tmp 41) 35 rfl Tryd.underlying35 hI0 hI1 hI2 hI3 rfl w1.heap.size _ _ Y _ rfl rfl (hO.quiet hk3) hN.by_ (by simp [b4_len]; omega) hk3'.size ?_; intro v5 w5 hO5 hk5 hw5)
        go_roundw
        case rel => first | exact ⟨1, by go_num, by omega, by rw [← HNX.out]; exact hO5, (hO.quiet hk3).step hk3' hk5⟩ | exact ⟨2, by go_num, by omega, by rw [← HNX.out]; exact hO5, (hO.quiet hk3).step hk3' hk5⟩ | exact ⟨3, by go_num, by omega, by rw [← HNX.out]; exact hO5, (hO.quiet hk3).step hk3' hk5⟩
        case measure => simp [intOf]
    case neg =>
    obtain rfl : k = 3 := by omega
    have hB1 := hK.blk (fun h => h) hBt
    have hc6 := hB1.cell 6
    have hX4 : (X3 ++ (((n3L t).take 3).map b4).flatten).length ≤ 1500 := by simp [n3L, b4_len]; omega
    have hXe4 : hdB t ++ n3B t = X3 ++ (((n3L t).take 3).map b4).flatten := by rw [hXe3]; simp [n3L, n3B]
    clear hXe3
    generalize X3 ++ (((n3L t).take 3).map b4).flatten = X4 at *
    go_wp2_with fail
    obtain ⟨W2, rfl⟩ : ∃ W2 : World, W2 = wr := ⟨_, rfl⟩
    go_loopw [3, 47] (fun ov iv wr => ∃ k : Nat, iv = .int .i64 k ∧ k ≤ t.mem.length ∧ OB w1.heap.size wr ov (X4 ++ ((t.mem.take k).map mbB).flatten) ∧ Kept (fun _ => False) w1 wr) (fun _ iv _ => t.mem.length - (intOf iv).toNat)
    case atStart => exact ⟨0, rfl, by omega, by simpa using hO, hK⟩
    case round =>
      clear hO hK hB1 hc6
      obtain ⟨k, rfl, hk, hO, hK⟩ := hrel
      by_cases hlt : k < t.mem.length
      case neg =>
        obtain rfl : k = t.mem.length := by omega
        have HT : tyB t = X4 ++ ((t.mem.take t.mem.length).map mbB).flatten := by rw [List.take_length, ← hXe4]; rfl
        go_wp2_with fail
        go_ret
        exact ⟨_, rfl, by rw [HT]; exact hO.low hK1.size, hK1.trans hK (fun _ _ h => h)⟩
      case pos =>
      obtain ⟨m, hmk⟩ : ∃ m, t.mem[k]? = some m := ⟨_, List.getElem?_eq_getElem hlt⟩
      have hnx : (X4 ++ ((t.mem.take k).map mbB).flatten) ++ mbB m = X4 ++ ((t.mem.take (k + 1)).map mbB).flatten := by rw [take_flat hmk, List.append_assoc]
      have hl5 : (X4 ++ ((t.mem.take k).map mbB).flatten).length ≤ 1000000 := by
        have := flat_len (l := t.mem.take k) (fun m hm => hmn m (List.mem_of_mem_take hm))
        rw [List.length_take] at this
        rw [List.length_append]
        omega
      generalize X4 ++ ((t.mem.take k).map mbB).flatten = Y at *
      have HNX := Lib.hid hnx
      have hmr := (hm1.kept hK)
      obtain ⟨mg, mo, rfl, hmg, m0, m1, m2⟩ := hmr.at_ hmk
      have hmn1 := hmn m (List.mem_of_getElem? hmk)
      clear hnx hmk
      have hKa : Kept (fun _ => False) w1 (wr.alloc (.cells #[nV m.name, .int .i64 m.type, .int .i64 m.bits] 42)) := hK.alloc _
      have hOa := hO.alloc (.cells #[nV m.name, .int .i64 m.type, .int .i64 m.bits] 42)
      have hBm := Blk.new wr 42 #[nV m.name, .int .i64 m.type, .int .i64 m.bits]
      go_wp2_with fail
      have hC0 : (wr.alloc (.cells #[nV m.name, .int .i64 m.type, .int .i64 m.bits] 42)).drew.cell? ⟨wr.heap.size, 0, none⟩ = some (nV m.name) ∧ (wr.alloc (.cells #[nV m.name, .int .i64 m.type, .int .i64 m.bits] 42)).drew.cell? ⟨wr.heap.size, 1, none⟩ = some (.int .i64 m.type) ∧ (wr.alloc (.cells #[nV m.name, .int .i64 m.type, .int .i64 m.bits] 42)).drew.cell? ⟨wr.heap.size, 2, none⟩ = some (.int .i64 m.bits) := ⟨hBm.cell 0, hBm.cell 1, hBm.cell 2⟩
      have hBd : Blk (wr.alloc (.cells #[nV m.name, .int .i64 m.type, .int .i64 m.bits] 42)).drew wr.heap.size 42 #[nV m.name, .int .i64 m.type, .int .i64 m.bits] := hBm
      have hOd : OB w1.heap.size (wr.alloc (.cells #[nV m.name, .int .i64 m.type, .int .i64 m.bits] 42)).drew u3 Y := hOa.quiet ((Kept.refl _ _).drew)
      have hKd : Kept (fun _ => False) w1 (wr.alloc (.cells #[nV m.name, .int .i64 m.type, .int .i64 m.bits] 42)).drew := hKa.drew
      refine wp_region_mix [.w, .w, .l, .k, .k, .w, .l, .k, .k, .w, .l, .k, .t, .w] (by kernel_rfl) (by kernel_rfl) (fun w' => w'.cell? ⟨wr.heap.size, 0, none⟩ = some (nV m.name) ∧ w'.cell? ⟨wr.heap.size, 1, none⟩ = some (.int .i64 m.type) ∧ w'.cell? ⟨wr.heap.size, 2, none⟩ = some (.int .i64 m.bits)) ?_
      repeat (refine mix_w1 ?_; go_big_quiet_step (fail); refine wpQuiet_nil ?_)
      refine mix_load1 hC0 rfl 9 (.tmp 52) rfl naStr ⟨wr.heap.size, 0, none⟩ _ rfl (fun _ h => h.1) ?_
      try simp only [Act.put, List.setIfInBounds_toArray, List.set_cons_succ, List.set_cons_zero]
      refine mix_k hC0 fun Q' hQ' => ?_
      go_wp2_with fail
      refine (nameBy_any m.name (wr.alloc (.cells #[nV m.name, .int .i64 m.type, .int .i64 m.bits] 42)).drew (by omega)).mono ?_
      rintro e wn1 ⟨nv1, rfl, hN1, hkn1⟩
      have hB1 := hkn1.blk (fun h => h) hBd
      have hO1 := hOd.quiet hkn1
      have hK1 := hKd.trans hkn1 (fun _ _ h => h)
      have hC1 : wn1.cell? ⟨wr.heap.size, 0, none⟩ = some (nV m.name) ∧ wn1.cell? ⟨wr.heap.size, 1, none⟩ = some (.int .i64 m.type) ∧ wn1.cell? ⟨wr.heap.size, 2, none⟩ = some (.int .i64 m.bits) := ⟨hB1.cell 0, hB1.cell 1, hB1.cell 2⟩
      go_wp2_with fail
      refine hQ' _ _ hC1 ?_
      clear hQ' Q'
      try simp only [Act.put, List.setIfInBounds_toArray, List.set_cons_succ, List.set_cons_zero]
      refine mix_k hC1 fun Q' hQ' => ?_
      refine wpList_obApp (w := wn1) rfl (.tmp 51) (.tmp 54) 35 rfl Tryd.underlying35 hI0 hI1 hI2 hI3 rfl w1.heap.size _ _ Y (nmB m.name) rfl rfl hO1 hN1.by_ (by simp [nmB, b4_len]; omega) hK1.size ?_
      intro v2 wa2 hO2 hk2 hw2
      have hK2 := hO1.step hK1 hk2
      have hB2 : Blk wa2 wr.heap.size 42 #[nV m.name, .int .i64 m.type, .int .i64 m.bits] := hk2.blk (fun e => absurd (hO.lt _ e) (by omega)) hB1
      have hC2 : wa2.cell? ⟨wr.heap.size, 0, none⟩ = some (nV m.name) ∧ wa2.cell? ⟨wr.heap.size, 1, none⟩ = some (.int .i64 m.type) ∧ wa2.cell? ⟨wr.heap.size, 2, none⟩ = some (.int .i64 m.bits) := ⟨hB2.cell 0, hB2.cell 1, hB2.cell 2⟩
      refine hQ' _ _ hC2 ?_
      clear hQ' Q'
      try simp only [Act.put, List.setIfInBounds_toArray, List.set_cons_succ, List.set_cons_zero]
      repeat (refine mix_w1 ?_; go_big_quiet_step (fail); refine wpQuiet_nil ?_)
      refine mix_load1 hC2 rfl 3 (.tmp 56) rfl naInt ⟨wr.heap.size, 1, none⟩ _ rfl (fun _ h => h.2.1) ?_
      try simp only [Act.put, List.setIfInBounds_toArray, List.set_cons_succ, List.set_cons_zero]
      refine mix_k hC2 fun Q' hQ' => ?_
      go_wp2_with fail
      refine (number_any m.type wa2).mono ?_
      rintro e wn3 ⟨nv3, rfl, hN3, hkn3⟩
      have hB3 := hkn3.blk (fun h => h) hB2
      have hO3 := hO2.quiet hkn3
      have hK3 := hK2.trans hkn3 (fun _ _ h => h)
      have hC3 : wn3.cell? ⟨wr.heap.size, 0, none⟩ = some (nV m.name) ∧ wn3.cell? ⟨wr.heap.size, 1, none⟩ = some (.int .i64 m.type) ∧ wn3.cell? ⟨wr.heap.size, 2, none⟩ = some (.int .i64 m.bits) := ⟨hB3.cell 0, hB3.cell 1, hB3.cell 2⟩
      go_wp2_with fail
      refine hQ' _ _ hC3 ?_
      clear hQ' Q'
      try simp only [Act.put, List.setIfInBounds_toArray, List.set_cons_succ, List.set_cons_zero]
      refine mix_k hC3 fun Q' hQ' => ?_
      refine wpList_obApp (w := wn3) rfl (.tmp 55) (.tmp 58) 35 rfl Tryd.underlying35 hI0 hI1 hI2 hI3 rfl w1.heap.size _ _ (Y ++ nmB m.name) (b4 m.type) rfl rfl hO3 hN3.by_ (by simp [nmB, b4_len]; omega) hK3.size ?_
      intro v4 wa4 hO4 hk4 hw4
      have hK4 := hO3.step hK3 hk4
      have hB4 : Blk wa4 wr.heap.size 42 #[nV m.name, .int .i64 m.type, .int .i64 m.bits] := hk4.blk (fun e => by
        rcases hw2 _ e with e2 | e2
        · exact absurd (hO.lt _ e2) (by omega)
        · exact absurd hB1.lt (by omega)) hB3
      have hC4 : wa4.cell? ⟨wr.heap.size, 0, none⟩ = some (nV m.name) ∧ wa4.cell? ⟨wr.heap.size, 1, none⟩ = some (.int .i64 m.type) ∧ wa4.cell? ⟨wr.heap.size, 2, none⟩ = some (.int .i64 m.bits) := ⟨hB4.cell 0, hB4.cell 1, hB4.cell 2⟩
      refine hQ' _ _ hC4 ?_
      clear hQ' Q'
      try simp only [Act.put, List.setIfInBounds_toArray, List.set_cons_succ, List.set_cons_zero]
      repeat (refine mix_w1 ?_; go_big_quiet_step (fail); refine wpQuiet_nil ?_)
      refine mix_load1 hC4 rfl 3 (.tmp 60) rfl naInt ⟨wr.heap.size, 2, none⟩ _ rfl (fun _ h => h.2.2) ?_
      try simp only [Act.put, List.setIfInBounds_toArray, List.set_cons_succ, List.set_cons_zero]
      refine mix_k hC4 fun Q' hQ' => ?_
      go_wp2_with fail
      refine (number_any m.bits wa4).mono ?_
      rintro e wn5 ⟨nv5, rfl, hN5, hkn5⟩
      have hB5 := hkn5.blk (fun h => h) hB4
      have hO5 := hO4.quiet hkn5
      have hK5 := hK4.trans hkn5 (fun _ _ h => h)
      have hC5 : wn5.cell? ⟨wr.heap.size, 0, none⟩ = some (nV m.name) ∧ wn5.cell? ⟨wr.heap.size, 1, none⟩ = some (.int .i64 m.type) ∧ wn5.cell? ⟨wr.heap.size, 2, none⟩ = some (.int .i64 m.bits) := ⟨hB5.cell 0, hB5.cell 1, hB5.cell 2⟩
      go_wp2_with fail
      refine hQ' _ _ hC5 ?_
      clear hQ' Q'
      try simp only [Act.put, List.setIfInBounds_toArray, List.set_cons_succ, List.set_cons_zero]
      refine mix_t fun Q' hQ' => ?_
      refine wpList_obApp (w := wn5) rfl (.tmp 59) (.tmp 62) 35 rfl Tryd.underlying35 hI0 hI1 hI2 hI3 rfl w1.heap.size _ _ (Y ++ nmB m.name ++ b4 m.type) (b4 m.bits) rfl rfl hO5 hN5.by_ (by simp [nmB, b4_len]; omega) hK5.size ?_
      intro v6 wa6 hO6 hk6 hw6
      have hK6 := hO5.step hK5 hk6
      refine hQ' _ _ ?_
      try simp only [Act.put, List.setIfInBounds_toArray, List.set_cons_succ, List.set_cons_zero]
      repeat (refine mix_w1 ?_; go_big_quiet_step (fail); refine wpQuiet_nil ?_)
      refine mix_done ?_
      have hO7 : OB w1.heap.size wa6 v6 (X4 ++ ((t.mem.take (k + 1)).map mbB).flatten) := by
        rw [← HNX.out]
        simpa [mbB] using hO6
      go_wp2_with fail
      refine ⟨?_, ?_⟩
      · (repeat apply Exists.intro)
        refine ⟨?rel, rfl⟩
        exact ⟨k + 1, by go_num, by omega, hO7, hK6⟩
      · simp [intOf]; omega

end Go.Proofs.YtmgdjiplpfeoiaaDoor
