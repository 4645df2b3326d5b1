import Derived.Test.YtahabogjfcdjkaaGreatDk
set_option linter.unusedSimpArgs false
set_option linter.unusedVariables false
namespace Go.Proofs.YtahabogjfcdjkaaGreat
open Go.RowKit

/-! ### the document's New -/
theorem infoPi : (Tryz.prog.info? 3).map (fun i => (i.zero, i.size, i.bytes)) = some (some (.int .i64 0), 1, 8) := by kernel_rfl
theorem RMp.made {w w' : World} {mp q : Nat} {v : Value} {L : List Rg} (h : RMem w mp v L) (d : Df) (hk : Kept (fun _ => False) w w') (hq : w.heap.size ≤ q)
    (hb : Blk w' q 67 (MS.rcells ⟨d, [], []⟩ ⟨q, mp, v, .slice none 0 0, .slice none 0 0⟩)) : RMp w' ⟨q, mp, v, .slice none 0 0, .slice none 0 0⟩ ⟨d, [], []⟩ L :=
  ⟨hb, Sg.nil _ _ _, Sl.nil _ _ _, h.quiet hk, fun e => Nat.not_lt.2 hq (h.lt e), fun g hg => (by simp [Value.ownBlock] at hg), fun g hg => (by simp [Value.ownBlock] at hg), fun y hy => (nomatch hy), List.nodup_nil, Nat.zero_le _, Nat.zero_le _⟩
set_option maxHeartbeats 2000000 in
set_option maxRecDepth 100000 in
theorem rnew_bad (d : Df) (pv : Value) (w : World) (h : d.kind = 4 ∨ defB { d with type := 0 } = false) :
    Calls Tryz.prog 9 #[.agg d.cells, pv] w fun e w' => e = .returned (.tuple #[.pointer none, .int .i64 90]) ∧ Kept (fun _ => False) w w' := by
  obtain ⟨kind, key, value, entries, timer, type⟩ := d
  unfold Df.cells
  by_cases h4 : kind = 4
  · subst h4
    clear h
    go_enter Tryz.func9, Tryz.ntmps9
    go_wp2_with fail
    go_ret2
    exact ⟨rfl, by first | exact ((Kept.refl _ w).alloc _) | exact ((Kept.refl _ w).alloc _).setCell (fun h => by simp at h) _⟩
  · have hd : defB ⟨kind, key, value, entries, timer, 0⟩ = false := h.resolve_left h4
    have hdef := fun W => rdef_any ⟨kind, key, value, entries, timer, 0⟩ (.slice none 0 0) W rfl h4
    rw [hd] at hdef
    have e4 : (kind == 4) = false := by simpa using h4
    have HDEF := Lib.hid hdef
    clear hdef hd h h4
    go_enter Tryz.func9, Tryz.ntmps9
    go_wp2_with fail
    refine (HDEF.out _).mono ?_
    rintro e w2 ⟨rfl, hk2⟩
    go_wp2_with fail
    go_ret2
    exact ⟨rfl, Kept.trans (by first | exact ((Kept.refl _ w).alloc _) | exact ((Kept.refl _ w).alloc _).setCell (fun h => by simp at h) _) hk2 (fun _ _ h => h)⟩
set_option maxHeartbeats 2000000 in
set_option maxRecDepth 100000 in
theorem rnew_hash (d : Df) (mp : Nat) (v : Value) (L : List Rg) (w : World) (h : RMem w mp v L) (h2 : d.kind = 2) (hd : defB { d with type := 0 } = true) :
    Calls Tryz.prog 9 #[.agg d.cells, .pointer (some ⟨mp, 0, none⟩)] w fun e w' => ∃ q, e = .returned (.tuple #[.pointer (some ⟨q, 0, none⟩), .int .i64 0]) ∧ RMp w' ⟨q, mp, v, .slice none 0 0, .slice none 0 0⟩ ⟨d, [], []⟩ L ∧ w.heap.size ≤ q ∧ Kept (fun _ => False) w w' := by
  obtain ⟨kind, key, value, entries, timer, type⟩ := d
  simp only at h2
  subst h2
  have hdef := fun W => rdef_any ⟨2, key, value, entries, timer, 0⟩ (.slice none 0 0) W rfl (by show (2 : Int) ≠ 4; decide)
  rw [hd] at hdef
  have HDEF := Lib.hid hdef
  clear hdef hd
  unfold Df.cells
  go_enter Tryz.func9, Tryz.ntmps9
  go_wp2_with fail
  refine (HDEF.out _).mono ?_
  rintro e w2 ⟨rfl, hk2⟩
  have hk0 : Kept (fun _ => False) w w2 := Kept.trans ((Kept.refl _ w).alloc _) hk2 (fun _ _ h => h)
  have hb2 : Blk w2 w.heap.size 23 #[.int .i64 2, .int .i64 key, .int .i64 value, .int .i64 entries, .bool timer, .int .i64 0] := hk2.blk (fun h => h) (Blk.new w _ _)
  have hc2 := hb2.cell
  have hf2 := hb2.frozen 5
  have hs2 := hk0.size
  have hlt := hb2.lt
  have hb3 := hb2.set_ 5 (.int .i64 type)
  have hk3 : Kept (fun _ => False) w (w2.setCell ⟨w.heap.size, 5, none⟩ (.int .i64 type)) := hk0.setCell (fun h => by simp at h) _
  have hbn : Blk ((w2.setCell ⟨w.heap.size, 5, none⟩ (.int .i64 type)).alloc (.cells #[.int .i64 2, .int .i64 key, .int .i64 value, .int .i64 entries, .bool timer, .int .i64 type, .pointer (some ⟨mp, 0, none⟩), .slice none 0 0, .slice none 0 0] 67)) w2.heap.size 67 #[.int .i64 2, .int .i64 key, .int .i64 value, .int .i64 entries, .bool timer, .int .i64 type, .pointer (some ⟨mp, 0, none⟩), .slice none 0 0, .slice none 0 0] := by
    have := Blk.new (w2.setCell ⟨w.heap.size, 5, none⟩ (.int .i64 type)) 67 #[.int .i64 2, .int .i64 key, .int .i64 value, .int .i64 entries, .bool timer, .int .i64 type, .pointer (some ⟨mp, 0, none⟩), .slice none 0 0, .slice none 0 0]
    have e : (w2.setCell ⟨w.heap.size, 5, none⟩ (.int .i64 type)).heap.size = w2.heap.size := by simp [World.setCell]
    rw [e] at this
    exact this
  have hk4 := hk3.alloc (.cells #[.int .i64 2, .int .i64 key, .int .i64 value, .int .i64 entries, .bool timer, .int .i64 type, .pointer (some ⟨mp, 0, none⟩), .slice none 0 0, .slice none 0 0] 67)
  have hmade := RMp.made h ⟨2, key, value, entries, timer, type⟩ hk4 hs2 hbn
  have hb4 := hb3.alloc (.cells #[.int .i64 2, .int .i64 key, .int .i64 value, .int .i64 entries, .bool timer, .int .i64 type, .pointer (some ⟨mp, 0, none⟩), .slice none 0 0, .slice none 0 0] 67)
  have HM := Lib.hid (And.intro hmade (And.intro hk4 hb4))
  clear hmade hbn hk4 hb3 hb4 hk3 hk2
  go_wp2_with fail
  go_ret2
  exact ⟨_, rfl, HM.out.1, hs2, HM.out.2.1⟩
set_option maxHeartbeats 4000000 in
set_option maxRecDepth 100000 in
theorem rnew_progs (d : Df) (mp : Nat) (v : Value) (L : List Rg) (w : World) (h : RMem w mp v L) (h2 : d.kind = 3) (hd : defB { d with type := 0 } = true) :
    Calls Tryz.prog 9 #[.agg d.cells, .pointer (some ⟨mp, 0, none⟩)] w fun e w' => ∃ q pv, e = .returned (.tuple #[.pointer (some ⟨q, 0, none⟩), .int .i64 0]) ∧ RMp w' ⟨q, mp, v, .slice none 0 0, pv⟩ ⟨d, [], List.replicate d.entries.toNat (-1)⟩ L ∧ w.heap.size ≤ q ∧ (∀ g, pv.ownBlock = some g → w.heap.size ≤ g) ∧ Kept (fun _ => False) w w' := by
  obtain ⟨kind, key, value, entries, timer, type⟩ := d
  simp only at h2
  subst h2
  have hen : 1 ≤ entries ∧ entries ≤ 64 := by
    have hd2 := hd
    unfold defB kindB3 inB at hd2
    simp at hd2
    omega
  obtain ⟨nn, rfl⟩ : ∃ nn : Nat, entries = nn := ⟨entries.toNat, by omega⟩
  obtain ⟨i0, hI0, hI1, hI2, hI3⟩ := info_parts infoPi
  have hdef := fun W => rdef_any ⟨3, key, value, (nn : Int), timer, 0⟩ (.slice none 0 0) W rfl (by show (3 : Int) ≠ 4; decide)
  rw [hd] at hdef
  have HDEF := Lib.hid hdef
  clear hdef hd
  unfold Df.cells
  go_enter Tryz.func9, Tryz.ntmps9
  go_wp2_with fail
  refine (HDEF.out _).mono ?_
  rintro e w2 ⟨rfl, hk2⟩
  have hk0 : Kept (fun _ => False) w w2 := Kept.trans ((Kept.refl _ w).alloc _) hk2 (fun _ _ h => h)
  have hb2 : Blk w2 w.heap.size 23 #[.int .i64 3, .int .i64 key, .int .i64 value, .int .i64 (nn : Int), .bool timer, .int .i64 0] := hk2.blk (fun h => h) (Blk.new w _ _)
  have hc2 := hb2.cell
  have hf2 := hb2.frozen 5
  have hs2 := hk0.size
  have hlt := hb2.lt
  have hb3 := hb2.set_ 5 (.int .i64 type)
  have hk3 : Kept (fun _ => False) w (w2.setCell ⟨w.heap.size, 5, none⟩ (.int .i64 type)) := hk0.setCell (fun h => by simp at h) _
  have hbn : Blk ((w2.setCell ⟨w.heap.size, 5, none⟩ (.int .i64 type)).alloc (.cells #[.int .i64 3, .int .i64 key, .int .i64 value, .int .i64 (nn : Int), .bool timer, .int .i64 type, .pointer (some ⟨mp, 0, none⟩), .slice none 0 0, .slice none 0 0] 67)) w2.heap.size 67 #[.int .i64 3, .int .i64 key, .int .i64 value, .int .i64 (nn : Int), .bool timer, .int .i64 type, .pointer (some ⟨mp, 0, none⟩), .slice none 0 0, .slice none 0 0] := by
    have := Blk.new (w2.setCell ⟨w.heap.size, 5, none⟩ (.int .i64 type)) 67 #[.int .i64 3, .int .i64 key, .int .i64 value, .int .i64 (nn : Int), .bool timer, .int .i64 type, .pointer (some ⟨mp, 0, none⟩), .slice none 0 0, .slice none 0 0]
    have e : (w2.setCell ⟨w.heap.size, 5, none⟩ (.int .i64 type)).heap.size = w2.heap.size := by simp [World.setCell]
    rw [e] at this
    exact this
  have hk4 := hk3.alloc (.cells #[.int .i64 3, .int .i64 key, .int .i64 value, .int .i64 (nn : Int), .bool timer, .int .i64 type, .pointer (some ⟨mp, 0, none⟩), .slice none 0 0, .slice none 0 0] 67)
  have hmade := RMp.made h ⟨3, key, value, (nn : Int), timer, type⟩ hk4 hs2 hbn
  have hb4 := hb3.alloc (.cells #[.int .i64 3, .int .i64 key, .int .i64 value, .int .i64 (nn : Int), .bool timer, .int .i64 type, .pointer (some ⟨mp, 0, none⟩), .slice none 0 0, .slice none 0 0] 67)
  have HM := Lib.hid (And.intro hmade (And.intro hk4 hb4))
  clear hmade hbn hk4 hb3 hb4 hk3 hk2
  go_wp2_with fail
  generalize hwm : (w2.setCell ⟨w.heap.size, 5, none⟩ (.int .i64 type)).alloc (.cells #[.int .i64 3, .int .i64 key, .int .i64 value, .int .i64 (nn : Int), .bool timer, .int .i64 type, .pointer (some ⟨mp, 0, none⟩), .slice none 0 0, .slice none 0 0] 67) = wm at *
  generalize hq : w2.heap.size = q at *
  generalize hr0 : w.heap.size = r0 at *
  clear hwm hc2 hf2 hb2
  go_loopw [9] (fun iv wr => ∃ (i : Nat) (pv : Value), iv = .int .i64 i ∧ i ≤ nn ∧ RMp wr ⟨q, mp, v, .slice none 0 0, pv⟩ ⟨⟨3, key, value, nn, timer, type⟩, [], List.replicate i (-1)⟩ L ∧ (∀ g, pv.ownBlock = some g → r0 < g) ∧ Blk wr r0 23 #[.int .i64 3, .int .i64 key, .int .i64 value, .int .i64 (nn : Int), .bool timer, .int .i64 type] ∧ Kept (fun _ => False) w wr) (fun iv _ => nn - (intOf iv).toNat)
  case atStart => exact ⟨0, .slice none 0 0, rfl, by omega, HM.out.1, by simp [Value.ownBlock], HM.out.2.2, HM.out.2.1⟩
  case round =>
  clear HM
  obtain ⟨i, pv, rfl, hi, hM, hown, hB, hK⟩ := hrel
  have hBc := hB.cell
  have hb := hM.blk.cell
  simp only [MS.rcells] at hb
  have HM := Lib.hid hM
  have HB := Lib.hid hB
  have HK := Lib.hid hK
  have HOWN := Lib.hid hown
  have hqlv : pv.ownBlock ≠ some q := fun e => (hM.dp q e).2.1 rfl
  have hqb := hM.blk
  have hprg := hM.prog
  clear hM hB hK hown
  by_cases hlt2 : i < nn
  case neg =>
    obtain rfl : i = nn := by omega
    have hdl : decide ((i : Int) < i) = false := decide_eq_false (by omega)
    clear hqb hprg
    go_wp2_with fail
    go_ret2
    exact ⟨_, _, rfl, by rw [Int.toNat_natCast]; exact HM.out, by omega, fun g hg => by have := HOWN.out g hg; omega, HK.out⟩
  case pos =>
  have hdl : decide ((i : Int) < nn) = true := decide_eq_true (by omega)
  go_wp2_with (at_builtin; refine wpList_push (w := wr) rfl (.tmp 65) (.tmp 66) 59 rfl Tryz.underlying59 hI0 hI1 hI2 hI3 rfl (by omega) pv ((List.replicate i (-1)).map pcell) (pcell (-1)) rfl rfl hprg rfl (pcell_one _) (by simp; omega) (by omega) ?_; intro g5 cap5 w5 hS5 hk5 hg5; have hb5 := hk5.blk hqlv hqb; have hb5c := hb5.cell 8; have hb5f := hb5.frozen 8; have hb5l := hb5.lt)
  have hlen : ((List.replicate i (-1 : Int)).map pcell).length = i := by simp
  have hg5q : g5 ≠ q := fun e => by
    rcases hg5 with h | h
    · exact hqlv (by rw [← e]; exact h)
    · have := hqb.lt; omega
  have hg5r : r0 < g5 := by
    rcases hg5 with h | h
    · exact HOWN.out g5 h
    · have := HB.out.lt; omega
  have hk6 : Kept (fun k => k = q) w5 (w5.setCell ⟨q, 8, none⟩ (.slice (some ⟨g5, 0, none⟩) (i + 1) cap5)) := Kept.setCell (F := fun k => k = q) (Kept.refl _ w5) (fun _ => rfl) _
  have hkk : Kept (fun k => k = q ∨ pv.ownBlock = some k) wr (w5.setCell ⟨q, 8, none⟩ (.slice (some ⟨g5, 0, none⟩) (i + 1) cap5)) := (hk5.mono (fun _ _ e => .inr e)).trans hk6 (fun _ _ e => .inl e)
  rw [hlen] at hS5
  have hS6 := hS5.kept hk6 (fun g' hg' e => hg5q (by have e1 : g5 = g' := Option.some.inj hg'; have e : g' = q := e; omega))
  have hM6 : RMp (w5.setCell ⟨q, 8, none⟩ (.slice (some ⟨g5, 0, none⟩) (i + 1) cap5)) ⟨q, mp, v, .slice none 0 0, .slice (some ⟨g5, 0, none⟩) (i + 1) cap5⟩ ⟨⟨3, key, value, nn, timer, type⟩, [], List.replicate (i + 1) (-1)⟩ L := by
    have hM := HM.out
    refine ⟨by exact hb5.set_ 8 (.slice (some ⟨g5, 0, none⟩) (i + 1) cap5), Sg.nil _ _ _, ?_, hM.mem.kept hkk (fun k hk e => ?_), hM.dq, fun g hg => (by simp [Value.ownBlock] at hg), fun g hg => ?_, fun y hy => (nomatch hy), List.nodup_nil, Nat.zero_le _, by simp; omega⟩
    · show Sl _ _ _ _ ((List.replicate (i + 1) (-1)).map pcell)
      rw [List.replicate_succ', List.map_append]
      exact hS6
    · rcases e with e | e
      · exact hM.dq (by rw [← e]; exact hk)
      · exact (hM.dp k e).1 hk
    · have e1 : g5 = g := Option.some.inj hg
      subst e1
      refine ⟨fun hm => ?_, hg5q, by simp [Value.ownBlock]⟩
      rcases hg5 with h | h
      · exact (hM.dp g5 h).1 hm
      · have := hM.mem.lt hm; omega
  have hB6 : Blk (w5.setCell ⟨q, 8, none⟩ (.slice (some ⟨g5, 0, none⟩) (i + 1) cap5)) r0 23 #[.int .i64 3, .int .i64 key, .int .i64 value, .int .i64 (nn : Int), .bool timer, .int .i64 type] := hkk.blk (fun e => by
    rcases e with e | e
    · omega
    · have := HOWN.out r0 e; omega) HB.out
  have hK6 : Kept (fun _ => False) w (w5.setCell ⟨q, 8, none⟩ (.slice (some ⟨g5, 0, none⟩) (i + 1) cap5)) := HK.out.trans hkk (fun k hk e => by
    rw [hr0] at hk
    rcases e with e | e
    · omega
    · have := HOWN.out k e; omega)
  have H6 := Lib.hid (And.intro hM6 (And.intro hB6 hK6))
  clear hM6 hB6 hK6 hS5 hS6 hk6 hkk hb5 hb5c hb5f
  generalize w5.setCell ⟨q, 8, none⟩ (.slice (some ⟨g5, 0, none⟩) (i + 1) cap5) = w6 at *
  exact ⟨⟨i + 1, _, by simp, by omega, H6.out.1, fun g hg => by have e1 : g5 = g := Option.some.inj hg; omega, H6.out.2.1, H6.out.2.2⟩, by simp [intOf]; omega⟩
theorem le_cells (i : Nat) (hi : i < 256) : (bcells (leB i 4)).toArray = #[.int .u8 i, .int .u8 0, .int .u8 0, .int .u8 0] := by
  have h1 : (UInt8.ofNat i).toNat = i := by rw [UInt8.toNat_ofNat']; omega
  have h2 : i / 256 = 0 := by omega
  unfold leB leB leB leB leB
  rw [h2]
  simp [bcells, h1]
set_option maxHeartbeats 16000000 in
set_option maxRecDepth 100000 in
theorem rnew_array (d : Df) (mp : Nat) (v : Value) (L : List Rg) (w : World) (h : RMem w mp v L) (hLs : L.length ≤ 90000) (h2 : d.kind = 1) (hd : defB { d with type := 0 } = true) :
    Calls Tryz.prog 9 #[.agg d.cells, .pointer (some ⟨mp, 0, none⟩)] w fun e w' => ∃ q v' lv L', e = .returned (.tuple #[.pointer (some ⟨q, 0, none⟩), .int .i64 0]) ∧ RMp w' ⟨q, mp, v', lv, .slice none 0 0⟩ ⟨d, entA L.length d.entries.toNat, []⟩ L' ∧
      Gr L L' d.value.toNat (hidN d.timer) d.entries.toNat ∧ (∀ k, fpR ⟨q, mp, v', lv, .slice none 0 0⟩ L' k → k ∈ blM mp v L ∨ w.heap.size ≤ k) ∧ Kept (fun k => k ∈ blM mp v L) w w' := by
  obtain ⟨kind, key, value, entries, timer, type⟩ := d
  simp only at h2
  subst h2
  obtain ⟨hv1, hv2, hv3, hn1, hn2⟩ := kind1_nums hd
  simp only at hv1 hv2 hv3 hn1 hn2
  obtain ⟨vn, rfl⟩ : ∃ vn : Nat, value = vn := ⟨value.toNat, by omega⟩
  obtain ⟨nn, rfl⟩ : ∃ nn : Nat, entries = nn := ⟨entries.toNat, by omega⟩
  obtain ⟨i1, hE0, hE1, hE2, hE3⟩ := info_parts infoEn
  have hblt : ∀ k ∈ blM mp v L, k < w.heap.size := fun k hk => h.lt hk
  have hdef := fun W => rdef_any ⟨1, key, (vn : Int), (nn : Int), timer, 0⟩ (.slice none 0 0) W rfl (by show (1 : Int) ≠ 4; decide)
  rw [hd] at hdef
  have HDEF := Lib.hid hdef
  clear hdef hd
  unfold Df.cells
  go_enter Tryz.func9, Tryz.ntmps9
  go_wp2_with fail
  refine (HDEF.out _).mono ?_
  rintro e w2 ⟨rfl, hk2⟩
  have hk0 : Kept (fun _ => False) w w2 := Kept.trans ((Kept.refl _ w).alloc _) hk2 (fun _ _ h => h)
  have hb2 : Blk w2 w.heap.size 23 #[.int .i64 1, .int .i64 key, .int .i64 (vn : Int), .int .i64 (nn : Int), .bool timer, .int .i64 0] := hk2.blk (fun h => h) (Blk.new w _ _)
  have hc2 := hb2.cell
  have hf2 := hb2.frozen 5
  have hs2 := hk0.size
  have hlt := hb2.lt
  have hb3 := hb2.set_ 5 (.int .i64 type)
  have hk3 : Kept (fun _ => False) w (w2.setCell ⟨w.heap.size, 5, none⟩ (.int .i64 type)) := hk0.setCell (fun h => by simp at h) _
  have hbn : Blk ((w2.setCell ⟨w.heap.size, 5, none⟩ (.int .i64 type)).alloc (.cells #[.int .i64 1, .int .i64 key, .int .i64 (vn : Int), .int .i64 (nn : Int), .bool timer, .int .i64 type, .pointer (some ⟨mp, 0, none⟩), .slice none 0 0, .slice none 0 0] 67)) w2.heap.size 67 #[.int .i64 1, .int .i64 key, .int .i64 (vn : Int), .int .i64 (nn : Int), .bool timer, .int .i64 type, .pointer (some ⟨mp, 0, none⟩), .slice none 0 0, .slice none 0 0] := by
    have := Blk.new (w2.setCell ⟨w.heap.size, 5, none⟩ (.int .i64 type)) 67 #[.int .i64 1, .int .i64 key, .int .i64 (vn : Int), .int .i64 (nn : Int), .bool timer, .int .i64 type, .pointer (some ⟨mp, 0, none⟩), .slice none 0 0, .slice none 0 0]
    have e : (w2.setCell ⟨w.heap.size, 5, none⟩ (.int .i64 type)).heap.size = w2.heap.size := by simp [World.setCell]
    rw [e] at this
    exact this
  have hk4 := hk3.alloc (.cells #[.int .i64 1, .int .i64 key, .int .i64 (vn : Int), .int .i64 (nn : Int), .bool timer, .int .i64 type, .pointer (some ⟨mp, 0, none⟩), .slice none 0 0, .slice none 0 0] 67)
  have hmade := RMp.made h ⟨1, key, (vn : Int), (nn : Int), timer, type⟩ hk4 hs2 hbn
  have hb4 := hb3.alloc (.cells #[.int .i64 1, .int .i64 key, .int .i64 (vn : Int), .int .i64 (nn : Int), .bool timer, .int .i64 type, .pointer (some ⟨mp, 0, none⟩), .slice none 0 0, .slice none 0 0] 67)
  have HM := Lib.hid (And.intro hmade (And.intro hk4 hb4))
  clear hmade hbn hk4 hb3 hb4 hk3 hk2
  have hhn : hidN timer ≤ vn := by
    unfold hidN
    split
    · rename_i ht
      have := hv3 ht
      omega
    · omega
  go_wp2_with fail
  generalize hwm : (w2.setCell ⟨w.heap.size, 5, none⟩ (.int .i64 type)).alloc (.cells #[.int .i64 1, .int .i64 key, .int .i64 (vn : Int), .int .i64 (nn : Int), .bool timer, .int .i64 type, .pointer (some ⟨mp, 0, none⟩), .slice none 0 0, .slice none 0 0] 67) = wm at *
  generalize hq : w2.heap.size = q at *
  generalize hr0 : w.heap.size = r0 at *
  have HR00 := Lib.hid (show r0 ∉ blM mp v L from fun e => by have := hblt r0 e; omega)
  clear hwm hc2 hf2 hb2
  go_loopw [8] (fun iv wr => ∃ (i : Nat) (v1 lv : Value) (L1 : List Rg), iv = .int .i64 i ∧ i ≤ nn ∧ RMp wr ⟨q, mp, v1, lv, .slice none 0 0⟩ ⟨⟨1, key, vn, nn, timer, type⟩, entA L.length i, []⟩ L1 ∧ (∀ g, lv.ownBlock = some g → r0 < g) ∧ (∀ k ∈ blM mp v1 L1, k ∈ blM mp v L ∨ r0 < k) ∧ Gr L L1 vn (hidN timer) i ∧
    Blk wr r0 23 #[.int .i64 1, .int .i64 key, .int .i64 (vn : Int), .int .i64 (nn : Int), .bool timer, .int .i64 type] ∧ Kept (fun k => k ∈ blM mp v L) w wr) (fun iv _ => nn - (intOf iv).toNat)
  case atStart => exact ⟨0, v, .slice none 0 0, L, rfl, by omega, HM.out.1, by simp [Value.ownBlock], fun k hk => .inl hk, ⟨rfl, fun j _ => rfl, fun j hj => absurd hj (Nat.not_lt_zero _)⟩, HM.out.2.2, HM.out.2.1.mono (fun _ _ e => e.elim)⟩
  case round =>
  clear HM
  obtain ⟨i, v1, lv, L1, rfl, hi, hM, hown, hin1, hgr, hB, hK⟩ := hrel
  have hBc := hB.cell
  have hb := hM.blk.cell
  simp only [MS.rcells] at hb
  have HMr := Lib.hid hM
  have HB := Lib.hid hB
  have HK := Lib.hid hK
  have HOWN := Lib.hid hown
  have HIN1 := Lib.hid hin1
  have HGR := Lib.hid hgr
  have hL1b : L1.length < 99000 := by have := hgr.len; omega
  have HR0 := Lib.hid (show r0 ∉ blM mp v1 L1 from fun e => by
    rcases hin1 r0 e with e | e
    · exact HR00.out e
    · omega)
  clear hM hB hK hown hin1 hgr
  by_cases hlt2 : i < nn
  case neg =>
    obtain rfl : i = nn := by omega
    have hdl : decide ((i : Int) < i) = false := decide_eq_false (by omega)
    go_wp2_with fail
    go_ret2
    refine ⟨_, v1, lv, L1, rfl, by rw [Int.toNat_natCast]; exact HMr.out, by rw [Int.toNat_natCast, Int.toNat_natCast]; exact HGR.out, fun k hk => ?_, HK.out⟩
    rcases hk with hk | hk | hk | hk
    · exact .inr (by have hk : k = q := hk; omega)
    · exact .inr (by have := HOWN.out k hk; omega)
    · simp [Value.ownBlock] at hk
    · rcases HIN1.out k hk with e | e
      · exact .inl e
      · exact .inr (by omega)
  case pos =>
  have hdl : decide ((i : Int) < nn) = true := decide_eq_true (by omega)
  have hmod : (i : Int) % 256 = i := by omega
  go_wp2_with fail
  refine wp_region_tree [.w, .w, .w, .w, .l, .w, .w, .k, .k, .w, .k, .l, .k, .t, .w, .w, .t] (fun w' => w'.cell? ⟨q, 7, none⟩ = some lv) [true, true, true, true, true, true, true, true, true, true, true, true, true, true, true, true, true] (by kernel_rfl) (by kernel_rfl) (by kernel_rfl) ?_
  have hM0 := HMr.out.drew
  have hK0 : Kept (fun k => k ∈ blM mp v1 L1) wr wr.drew := (Kept.refl _ wr).drew
  have hC0 : wr.drew.cell? ⟨q, 7, none⟩ = some lv := hb 7
  generalize wr.drew = w0a at *
  refine tree_fork2 [false, false, false, false, false, true, true, true, false, false, false, false, false, false, false, false, false] [true, true, true, true, true, false, false, false, true, true, true, true, true, true, true, true, true] [false, false, false, false, false, false, false, false, false, true, true, false, false, false, false, false, false] [true, true, true, true, true, true, true, true, true, false, false, true, true, true, true, true, true] (by kernel_rfl) ?_ ?_
  · simp only [keep]
    refine mix_w1 ?_; go_big_quiet_step (fail); refine wpQuiet_nil ?_
    refine mix_w1 ?_; go_big_quiet_step (fail); refine wpQuiet_nil ?_
    refine mix_k hC0 fun Q' hQ' => ?_
    go_wp2_with fail
    have hBs1 := By.ofNew w0a (leB i 4) 4 (by rw [leB_len]; exact Nat.le_refl _)
    rw [leB_len, le_cells i (by omega)] at hBs1
    have hM1 := hM0.quiet ((Kept.refl (fun _ => False) w0a).alloc (.cells #[.int .u8 i, .int .u8 0, .int .u8 0, .int .u8 0] 5))
    have hK1 := hK0.alloc (.cells #[.int .u8 i, .int .u8 0, .int .u8 0, .int .u8 0] 5)
    have hC1 : (w0a.alloc (.cells #[.int .u8 i, .int .u8 0, .int .u8 0, .int .u8 0] 5)).cell? ⟨q, 7, none⟩ = some lv := (World.cell?_alloc_lt _ _ _ (by exact hM0.blk.lt)).trans hC0
    have hgb1 : wr.heap.size ≤ w0a.heap.size := hK0.size
    refine hQ' _ _ hC1 ?_
    clear hQ' Q'
    generalize w0a.alloc (.cells #[.int .u8 i, .int .u8 0, .int .u8 0, .int .u8 0] 5) = w1a at *
    generalize w0a.heap.size = gb1 at *
    refine mix_done ?_
    try simp only [Act.put, List.setIfInBounds_toArray, List.set_cons_succ, List.set_cons_zero]
    refine tree_fork2 [false, false, false, false, false, false, false, false, true, false, false, false, false, false, false, false, false] [true, true, true, true, true, false, false, false, false, true, true, true, true, true, true, true, true] [false, false, false, false, false, false, false, false, false, true, true, false, false, false, false, false, false] [true, true, true, true, true, false, false, false, true, false, false, true, true, true, true, true, true] (by kernel_rfl) ?_ ?_
    · simp only [keep]
      have hcv2 : (convert 39 9 (.slice (some ⟨gb1, 0, none⟩) 4 4)).run Tryz.prog w1a = .ok (sV (leB i 4)) w1a := hBs1.conv Tryz.underlying39 Tryz.underlying5 Tryz.underlying9
      refine mix_k hC1 fun Q' hQ' => ?_
      go_wp2_with fail
      refine hQ' _ _ hC1 ?_
      clear hQ' Q' hcv2
      refine mix_done ?_
      try simp only [Act.put, List.setIfInBounds_toArray, List.set_cons_succ, List.set_cons_zero]
      refine tree_fork1 [false, false, false, false, false, false, false, false, false, true, true, false, false, false, false, false, false] [true, true, true, true, true, false, false, false, false, false, false, true, true, true, true, true, true] (by kernel_rfl) ?_
      simp only [keep]
      refine mix_w1 ?_; go_big_quiet_step (fail); refine wpQuiet_nil ?_
      refine mix_k hC1 fun Q' hQ' => ?_
      go_wp2_with fail
      refine (rregion_any (⟨q, mp, v1, lv, .slice none 0 0⟩ : RLoc) (⟨⟨1, key, (vn : Int), (nn : Int), timer, type⟩, entA L.length i, []⟩ : MS) L1 vn w1a hM1 rfl (by omega) hhn (by omega)).mono ?_
      rintro e w3a ⟨rfl, v4, g4, cv4, hM3, hfp3, hk3⟩
      have hK3 := hK1.trans hk3 (fun _ _ h => h)
      have hC3 : w3a.cell? ⟨q, 7, none⟩ = some lv := hM3.blk.cell 7
      have hBs3 := hBs1.kept hk3 (fun g hg e => by have e1 : gb1 = g := Option.some.inj hg; have := HMr.out.mem.lt e; have := hgb1; omega)
      go_wp2_with fail
      refine hQ' _ _ hC3 ?_
      clear hQ' Q'
      refine mix_done ?_
      try simp only [Act.put, List.setIfInBounds_toArray, List.set_cons_succ, List.set_cons_zero]
      refine tree_fork1 [false, false, false, false, false, false, false, false, false, false, false, true, true, false, false, false, false] [true, true, true, true, true, false, false, false, false, false, false, false, false, true, true, true, true] (by kernel_rfl) ?_
      simp only [keep]
      refine mix_build1 hC3 rfl 70 _ rfl [(0, sV (leB i 4)), (1, .int .i64 ((L1.length : Int) + 1))] rfl (.agg #[sV (leB i 4), .int .i64 ((L1.length : Int) + 1)]) (fun w' => ent_build _ _ w') ?_
      try simp only [Act.put, List.setIfInBounds_toArray, List.set_cons_succ, List.set_cons_zero]
      refine mix_k hC3 fun Q' hQ' => ?_
      go_wp2_with fail
      have hC4 : (w3a.alloc (.cells #[sV (leB i 4), .int .i64 ((L1.length : Int) + 1)] 70)).cell? ⟨q, 7, none⟩ = some lv := (World.cell?_alloc_lt _ _ _ (by exact hM3.blk.lt)).trans hC3
      refine hQ' _ _ hC4 ?_
      clear hQ' Q'
      refine mix_done ?_
      try simp only [Act.put, List.setIfInBounds_toArray, List.set_cons_succ, List.set_cons_zero]
      refine tree_fork1 [false, true, true, true, true, false, false, false, false, false, false, false, false, true, false, false, false] [true, false, false, false, false, false, false, false, false, false, false, false, false, false, true, true, true] (by kernel_rfl) ?_
      simp only [keep]
      refine mix_w1 ?_; go_big_quiet_step (fail); refine wpQuiet_nil ?_
      refine mix_w1 ?_; go_big_quiet_step (fail); refine wpQuiet_nil ?_
      refine mix_w1 ?_; go_big_quiet_step (fail); refine wpQuiet_nil ?_
      refine mix_load1 hC4 rfl 65 (.tmp 39) rfl naEnts ⟨q, 7, none⟩ lv rfl (fun _ h => h) ?_
      try simp only [Act.put, List.setIfInBounds_toArray, List.set_cons_succ, List.set_cons_zero]
      refine mix_t fun Q' hQ' => ?_
      refine wpList_pushG (w := w3a) rfl (.tmp 40) (.tmp 48) 65 rfl Tryz.underlying65 hE0 hE1 hE2 hE3 rfl (by omega) lv ((entA L.length i).map ecell) (ecell (leB i 4, (L1.length : Int) + 1)) rfl rfl hM3.ent rfl (ecell_one _) (by simp [entA]; omega) (by omega) ?_
      intro g5 cap5 w5 hS5 hk5 hg5
      refine hQ' _ _ ?_
      clear hQ' Q'
      try simp only [Act.put, List.setIfInBounds_toArray, List.set_cons_succ, List.set_cons_zero]
      rw [show ((entA L.length i).map ecell).length = i by simp [entA]]
      have hqlv : lv.ownBlock ≠ some q := fun e => (hM3.dl q e).2 rfl
      have hb5 := hk5.blk hqlv hM3.blk
      have hb5c : w5.cell? ⟨q, 7, none⟩ = some lv := hb5.cell 7
      have hb5f := hb5.frozen 7
      have hb5l := hb5.lt
      refine mix_done ?_
      try simp only [Act.put, List.setIfInBounds_toArray, List.set_cons_succ, List.set_cons_zero]
      refine tree_fork1 [true, false, false, false, false, false, false, false, false, false, false, false, false, false, true, true, true] [false, false, false, false, false, false, false, false, false, false, false, false, false, false, false, false, false] (by kernel_rfl) ?_
      simp only [keep]
      refine mix_w1 ?_; go_big_quiet_step (fail); refine wpQuiet_nil ?_
      refine mix_w1 ?_; go_big_quiet_step (fail); refine wpQuiet_nil ?_
      refine mix_w1 ?_; go_big_quiet_step (fail); refine wpQuiet_nil ?_
      refine mix_t fun Q' hQ' => ?_
      go_wp2_with fail
      refine mix_done ?_
      try simp only [Act.put, List.setIfInBounds_toArray, List.set_cons_succ, List.set_cons_zero]
      refine tree_last (by kernel_rfl) ?_
      simp only [keep]
      refine mix_done ?_
      try simp only [Act.put, List.setIfInBounds_toArray, List.set_cons_succ, List.set_cons_zero]
      have hlen5 : ((entA L.length i).map ecell).length = i := by simp [entA]
      rw [hlen5] at hS5
      have hg5q : g5 ≠ q := fun e => by
        rcases hg5 with h | h
        · exact hqlv (by rw [← e]; exact h)
        · have h9 : q < w3a.heap.size := hM3.blk.lt
          omega
      have hw0 := hK3.size
      have hg5r : r0 < g5 := by
        rcases hg5 with h | h
        · exact HOWN.out g5 h
        · have := HB.out.lt; omega
      have hk6 : Kept (fun k => k = q) w5 (w5.setCell ⟨q, 7, none⟩ (.slice (some ⟨g5, 0, none⟩) (i + 1) cap5)) := Kept.setCell (F := fun k => k = q) (Kept.refl _ w5) (fun _ => rfl) _
      have hkk : Kept (fun k => k = q ∨ lv.ownBlock = some k) w3a (w5.setCell ⟨q, 7, none⟩ (.slice (some ⟨g5, 0, none⟩) (i + 1) cap5)) := (hk5.mono (fun _ _ e => .inr e)).trans hk6 (fun _ _ e => .inl e)
      have hS6 := Sg.kept hk6 hS5 (fun g' hg' e => hg5q (by have e1 : g5 = g' := Option.some.inj hg'; have e : g' = q := e; omega))
      have hE' : (entA L.length (i + 1)) = entA L.length i ++ [(leB i 4, (L1.length : Int) + 1)] := by rw [entA_succ, HGR.out.len]
      have hM6 := hM3.ents (lv' := (.slice (some ⟨g5, 0, none⟩) (i + 1) cap5)) (E' := entA L.length (i + 1)) hkk (by exact hb5.set_ 7 (.slice (some ⟨g5, 0, none⟩) (i + 1) cap5)) (by rw [hE', List.map_append]; exact hS6) (fun g hg => by
          have e1 : g5 = g := Option.some.inj hg
          subst e1
          exact hg5)
        (fun y hy => by
          rw [hE'] at hy
          rcases List.mem_append.1 hy with hy | hy
          · exact hM3.ids y hy
          · rw [List.mem_singleton.1 hy]
            exact ⟨L1.length, ⟨g4, cv4, List.replicate vn 0, true, (hidN timer : Nat), false⟩, rfl, by rw [List.getElem?_append_right (Nat.le_refl _), Nat.sub_self]; rfl, by simp⟩)
        (by
          rw [hE', List.map_append, List.nodup_append]
          refine ⟨hM3.nd, by simp, fun a ha b hb e => ?_⟩
          rw [List.map_cons, List.map_nil, List.mem_singleton] at hb
          obtain ⟨y, hy, e2⟩ := List.mem_map.1 ha
          exact lookS_none_all (entA_none L.length (n := i) (by omega)) y hy (e2.trans (e.trans hb)))
        (by simp [entA]; omega)
      have hB6 : Blk (w5.setCell ⟨q, 7, none⟩ (.slice (some ⟨g5, 0, none⟩) (i + 1) cap5)) r0 23 #[.int .i64 1, .int .i64 key, .int .i64 (vn : Int), .int .i64 (nn : Int), .bool timer, .int .i64 type] := hkk.blk (fun e => by
          rcases e with e | e
          · omega
          · have := HOWN.out r0 e; omega) (hK3.blk (fun e => HR0.out e) HB.out)
      have hK6 : Kept (fun k => k ∈ blM mp v L) w (w5.setCell ⟨q, 7, none⟩ (.slice (some ⟨g5, 0, none⟩) (i + 1) cap5)) := (HK.out.trans hK3 (fun k hk e => (HIN1.out k e).resolve_right (by rw [hr0] at hk; omega))).trans hkk (fun k hk e => by
          rw [hr0] at hk
          rcases e with e | e
          · omega
          · have := HOWN.out k e; omega)
      have hfin4 : ∀ k ∈ blM mp v4 (L1 ++ [⟨g4, cv4, List.replicate vn 0, true, (hidN timer : Nat), false⟩]), k ∈ blM mp v L ∨ r0 < k := fun k hk => by
        rcases hfp3 k (.inr (.inr (.inr hk))) with e | e
        · rcases e with e | e | e | e
          · exact .inr (by have e : k = q := e; omega)
          · exact .inr (HOWN.out k e)
          · simp [Value.ownBlock] at e
          · exact HIN1.out k e
        · have := hK1.size
          have := HB.out.lt
          exact .inr (by omega)
      have hgr4 : Gr L (L1 ++ [⟨g4, cv4, List.replicate vn 0, true, (hidN timer : Nat), false⟩]) vn (hidN timer) (i + 1) := by
        have hgr := HGR.out
        have hlen := hgr.len
        refine ⟨by simp; omega, fun j hj => ?_, fun j hj => ?_⟩
        · rw [List.getElem?_append_left (by omega)]
          exact hgr.pre j hj
        · by_cases e : j < i
          · obtain ⟨r, h1, h2⟩ := hgr.new j e
            exact ⟨r, by rw [List.getElem?_append_left (by omega)]; exact h1, h2⟩
          · obtain rfl : j = i := by omega
            exact ⟨⟨g4, cv4, List.replicate vn 0, true, (hidN timer : Nat), false⟩, by rw [← hlen, List.getElem?_append_right (Nat.le_refl _), Nat.sub_self]; rfl, rfl, rfl, rfl, rfl⟩
      have H6 := Lib.hid (And.intro hM6 (And.intro hB6 (And.intro hK6 (And.intro hfin4 hgr4))))
      clear hM6 hB6 hK6 hS5 hS6 hk6 hkk hb5 hb5c hb5f hfin4 hgr4 hE'
      generalize (w5.setCell ⟨q, 7, none⟩ (.slice (some ⟨g5, 0, none⟩) (i + 1) cap5)) = w6 at *
      go_wp2_with fail
      exact ⟨⟨i + 1, v4, (.slice (some ⟨g5, 0, none⟩) (i + 1) cap5), _, by simp, by omega, H6.out.1, fun g hg => (by have e1 : g5 = g := Option.some.inj hg; omega), H6.out.2.2.2.1, H6.out.2.2.2.2, H6.out.2.1, H6.out.2.2.1⟩, by simp [intOf]; omega⟩
    · simp only [keep]
      refine mix_w1 ?_; go_big_quiet_step (fail); refine wpQuiet_nil ?_
      refine mix_k hC1 fun Q' hQ' => ?_
      go_wp2_with fail
      refine (rregion_any (⟨q, mp, v1, lv, .slice none 0 0⟩ : RLoc) (⟨⟨1, key, (vn : Int), (nn : Int), timer, type⟩, entA L.length i, []⟩ : MS) L1 vn w1a hM1 rfl (by omega) hhn (by omega)).mono ?_
      rintro e w7a ⟨rfl, v4, g4, cv4, hM7, hfp7, hk7⟩
      have hK7 := hK1.trans hk7 (fun _ _ h => h)
      have hC7 : w7a.cell? ⟨q, 7, none⟩ = some lv := hM7.blk.cell 7
      have hBs7 := hBs1.kept hk7 (fun g hg e => by have e1 : gb1 = g := Option.some.inj hg; have := HMr.out.mem.lt e; have := hgb1; omega)
      go_wp2_with fail
      refine hQ' _ _ hC7 ?_
      clear hQ' Q'
      refine mix_done ?_
      try simp only [Act.put, List.setIfInBounds_toArray, List.set_cons_succ, List.set_cons_zero]
      refine tree_fork1 [false, false, false, false, false, false, false, false, true, false, false, false, false, false, false, false, false] [true, true, true, true, true, false, false, false, false, false, false, true, true, true, true, true, true] (by kernel_rfl) ?_
      simp only [keep]
      have hcv8 : (convert 39 9 (.slice (some ⟨gb1, 0, none⟩) 4 4)).run Tryz.prog w7a = .ok (sV (leB i 4)) w7a := hBs7.conv Tryz.underlying39 Tryz.underlying5 Tryz.underlying9
      refine mix_k hC7 fun Q' hQ' => ?_
      go_wp2_with fail
      refine hQ' _ _ hC7 ?_
      clear hQ' Q' hcv8
      refine mix_done ?_
      try simp only [Act.put, List.setIfInBounds_toArray, List.set_cons_succ, List.set_cons_zero]
      refine tree_fork1 [false, false, false, false, false, false, false, false, false, false, false, true, true, false, false, false, false] [true, true, true, true, true, false, false, false, false, false, false, false, false, true, true, true, true] (by kernel_rfl) ?_
      simp only [keep]
      refine mix_build1 hC7 rfl 70 _ rfl [(0, sV (leB i 4)), (1, .int .i64 ((L1.length : Int) + 1))] rfl (.agg #[sV (leB i 4), .int .i64 ((L1.length : Int) + 1)]) (fun w' => ent_build _ _ w') ?_
      try simp only [Act.put, List.setIfInBounds_toArray, List.set_cons_succ, List.set_cons_zero]
      refine mix_k hC7 fun Q' hQ' => ?_
      go_wp2_with fail
      have hC9 : (w7a.alloc (.cells #[sV (leB i 4), .int .i64 ((L1.length : Int) + 1)] 70)).cell? ⟨q, 7, none⟩ = some lv := (World.cell?_alloc_lt _ _ _ (by exact hM7.blk.lt)).trans hC7
      refine hQ' _ _ hC9 ?_
      clear hQ' Q'
      refine mix_done ?_
      try simp only [Act.put, List.setIfInBounds_toArray, List.set_cons_succ, List.set_cons_zero]
      refine tree_fork1 [false, true, true, true, true, false, false, false, false, false, false, false, false, true, false, false, false] [true, false, false, false, false, false, false, false, false, false, false, false, false, false, true, true, true] (by kernel_rfl) ?_
      simp only [keep]
      refine mix_w1 ?_; go_big_quiet_step (fail); refine wpQuiet_nil ?_
      refine mix_w1 ?_; go_big_quiet_step (fail); refine wpQuiet_nil ?_
      refine mix_w1 ?_; go_big_quiet_step (fail); refine wpQuiet_nil ?_
      refine mix_load1 hC9 rfl 65 (.tmp 39) rfl naEnts ⟨q, 7, none⟩ lv rfl (fun _ h => h) ?_
      try simp only [Act.put, List.setIfInBounds_toArray, List.set_cons_succ, List.set_cons_zero]
      refine mix_t fun Q' hQ' => ?_
      refine wpList_pushG (w := w7a) rfl (.tmp 40) (.tmp 48) 65 rfl Tryz.underlying65 hE0 hE1 hE2 hE3 rfl (by omega) lv ((entA L.length i).map ecell) (ecell (leB i 4, (L1.length : Int) + 1)) rfl rfl hM7.ent rfl (ecell_one _) (by simp [entA]; omega) (by omega) ?_
      intro g5 cap5 w5 hS5 hk5 hg5
      refine hQ' _ _ ?_
      clear hQ' Q'
      try simp only [Act.put, List.setIfInBounds_toArray, List.set_cons_succ, List.set_cons_zero]
      rw [show ((entA L.length i).map ecell).length = i by simp [entA]]
      have hqlv : lv.ownBlock ≠ some q := fun e => (hM7.dl q e).2 rfl
      have hb5 := hk5.blk hqlv hM7.blk
      have hb5c : w5.cell? ⟨q, 7, none⟩ = some lv := hb5.cell 7
      have hb5f := hb5.frozen 7
      have hb5l := hb5.lt
      refine mix_done ?_
      try simp only [Act.put, List.setIfInBounds_toArray, List.set_cons_succ, List.set_cons_zero]
      refine tree_fork1 [true, false, false, false, false, false, false, false, false, false, false, false, false, false, true, true, true] [false, false, false, false, false, false, false, false, false, false, false, false, false, false, false, false, false] (by kernel_rfl) ?_
      simp only [keep]
      refine mix_w1 ?_; go_big_quiet_step (fail); refine wpQuiet_nil ?_
      refine mix_w1 ?_; go_big_quiet_step (fail); refine wpQuiet_nil ?_
      refine mix_w1 ?_; go_big_quiet_step (fail); refine wpQuiet_nil ?_
      refine mix_t fun Q' hQ' => ?_
      go_wp2_with fail
      refine mix_done ?_
      try simp only [Act.put, List.setIfInBounds_toArray, List.set_cons_succ, List.set_cons_zero]
      refine tree_last (by kernel_rfl) ?_
      simp only [keep]
      refine mix_done ?_
      try simp only [Act.put, List.setIfInBounds_toArray, List.set_cons_succ, List.set_cons_zero]
      have hlen5 : ((entA L.length i).map ecell).length = i := by simp [entA]
      rw [hlen5] at hS5
      have hg5q : g5 ≠ q := fun e => by
        rcases hg5 with h | h
        · exact hqlv (by rw [← e]; exact h)
        · have h9 : q < w7a.heap.size := hM7.blk.lt
          omega
      have hw0 := hK7.size
      have hg5r : r0 < g5 := by
        rcases hg5 with h | h
        · exact HOWN.out g5 h
        · have := HB.out.lt; omega
      have hk6 : Kept (fun k => k = q) w5 (w5.setCell ⟨q, 7, none⟩ (.slice (some ⟨g5, 0, none⟩) (i + 1) cap5)) := Kept.setCell (F := fun k => k = q) (Kept.refl _ w5) (fun _ => rfl) _
      have hkk : Kept (fun k => k = q ∨ lv.ownBlock = some k) w7a (w5.setCell ⟨q, 7, none⟩ (.slice (some ⟨g5, 0, none⟩) (i + 1) cap5)) := (hk5.mono (fun _ _ e => .inr e)).trans hk6 (fun _ _ e => .inl e)
      have hS6 := Sg.kept hk6 hS5 (fun g' hg' e => hg5q (by have e1 : g5 = g' := Option.some.inj hg'; have e : g' = q := e; omega))
      have hE' : (entA L.length (i + 1)) = entA L.length i ++ [(leB i 4, (L1.length : Int) + 1)] := by rw [entA_succ, HGR.out.len]
      have hM6 := hM7.ents (lv' := (.slice (some ⟨g5, 0, none⟩) (i + 1) cap5)) (E' := entA L.length (i + 1)) hkk (by exact hb5.set_ 7 (.slice (some ⟨g5, 0, none⟩) (i + 1) cap5)) (by rw [hE', List.map_append]; exact hS6) (fun g hg => by
          have e1 : g5 = g := Option.some.inj hg
          subst e1
          exact hg5)
        (fun y hy => by
          rw [hE'] at hy
          rcases List.mem_append.1 hy with hy | hy
          · exact hM7.ids y hy
          · rw [List.mem_singleton.1 hy]
            exact ⟨L1.length, ⟨g4, cv4, List.replicate vn 0, true, (hidN timer : Nat), false⟩, rfl, by rw [List.getElem?_append_right (Nat.le_refl _), Nat.sub_self]; rfl, by simp⟩)
        (by
          rw [hE', List.map_append, List.nodup_append]
          refine ⟨hM7.nd, by simp, fun a ha b hb e => ?_⟩
          rw [List.map_cons, List.map_nil, List.mem_singleton] at hb
          obtain ⟨y, hy, e2⟩ := List.mem_map.1 ha
          exact lookS_none_all (entA_none L.length (n := i) (by omega)) y hy (e2.trans (e.trans hb)))
        (by simp [entA]; omega)
      have hB6 : Blk (w5.setCell ⟨q, 7, none⟩ (.slice (some ⟨g5, 0, none⟩) (i + 1) cap5)) r0 23 #[.int .i64 1, .int .i64 key, .int .i64 (vn : Int), .int .i64 (nn : Int), .bool timer, .int .i64 type] := hkk.blk (fun e => by
          rcases e with e | e
          · omega
          · have := HOWN.out r0 e; omega) (hK7.blk (fun e => HR0.out e) HB.out)
      have hK6 : Kept (fun k => k ∈ blM mp v L) w (w5.setCell ⟨q, 7, none⟩ (.slice (some ⟨g5, 0, none⟩) (i + 1) cap5)) := (HK.out.trans hK7 (fun k hk e => (HIN1.out k e).resolve_right (by rw [hr0] at hk; omega))).trans hkk (fun k hk e => by
          rw [hr0] at hk
          rcases e with e | e
          · omega
          · have := HOWN.out k e; omega)
      have hfin4 : ∀ k ∈ blM mp v4 (L1 ++ [⟨g4, cv4, List.replicate vn 0, true, (hidN timer : Nat), false⟩]), k ∈ blM mp v L ∨ r0 < k := fun k hk => by
        rcases hfp7 k (.inr (.inr (.inr hk))) with e | e
        · rcases e with e | e | e | e
          · exact .inr (by have e : k = q := e; omega)
          · exact .inr (HOWN.out k e)
          · simp [Value.ownBlock] at e
          · exact HIN1.out k e
        · have := hK1.size
          have := HB.out.lt
          exact .inr (by omega)
      have hgr4 : Gr L (L1 ++ [⟨g4, cv4, List.replicate vn 0, true, (hidN timer : Nat), false⟩]) vn (hidN timer) (i + 1) := by
        have hgr := HGR.out
        have hlen := hgr.len
        refine ⟨by simp; omega, fun j hj => ?_, fun j hj => ?_⟩
        · rw [List.getElem?_append_left (by omega)]
          exact hgr.pre j hj
        · by_cases e : j < i
          · obtain ⟨r, h1, h2⟩ := hgr.new j e
            exact ⟨r, by rw [List.getElem?_append_left (by omega)]; exact h1, h2⟩
          · obtain rfl : j = i := by omega
            exact ⟨⟨g4, cv4, List.replicate vn 0, true, (hidN timer : Nat), false⟩, by rw [← hlen, List.getElem?_append_right (Nat.le_refl _), Nat.sub_self]; rfl, rfl, rfl, rfl, rfl⟩
      have H6 := Lib.hid (And.intro hM6 (And.intro hB6 (And.intro hK6 (And.intro hfin4 hgr4))))
      clear hM6 hB6 hK6 hS5 hS6 hk6 hkk hb5 hb5c hb5f hfin4 hgr4 hE'
      generalize (w5.setCell ⟨q, 7, none⟩ (.slice (some ⟨g5, 0, none⟩) (i + 1) cap5)) = w6 at *
      go_wp2_with fail
      exact ⟨⟨i + 1, v4, (.slice (some ⟨g5, 0, none⟩) (i + 1) cap5), _, by simp, by omega, H6.out.1, fun g hg => (by have e1 : g5 = g := Option.some.inj hg; omega), H6.out.2.2.2.1, H6.out.2.2.2.2, H6.out.2.1, H6.out.2.2.1⟩, by simp [intOf]; omega⟩
  · simp only [keep]
    refine mix_w1 ?_; go_big_quiet_step (fail); refine wpQuiet_nil ?_
    refine mix_k hC0 fun Q' hQ' => ?_
    go_wp2_with fail
    refine (rregion_any (⟨q, mp, v1, lv, .slice none 0 0⟩ : RLoc) (⟨⟨1, key, (vn : Int), (nn : Int), timer, type⟩, entA L.length i, []⟩ : MS) L1 vn w0a hM0 rfl (by omega) hhn (by omega)).mono ?_
    rintro e w12a ⟨rfl, v4, g4, cv4, hM12, hfp12, hk12⟩
    have hK12 := hK0.trans hk12 (fun _ _ h => h)
    have hC12 : w12a.cell? ⟨q, 7, none⟩ = some lv := hM12.blk.cell 7
    go_wp2_with fail
    refine hQ' _ _ hC12 ?_
    clear hQ' Q'
    refine mix_done ?_
    try simp only [Act.put, List.setIfInBounds_toArray, List.set_cons_succ, List.set_cons_zero]
    refine tree_fork1 [false, false, false, false, false, true, true, true, false, false, false, false, false, false, false, false, false] [true, true, true, true, true, false, false, false, true, false, false, true, true, true, true, true, true] (by kernel_rfl) ?_
    simp only [keep]
    refine mix_w1 ?_; go_big_quiet_step (fail); refine wpQuiet_nil ?_
    refine mix_w1 ?_; go_big_quiet_step (fail); refine wpQuiet_nil ?_
    refine mix_k hC12 fun Q' hQ' => ?_
    go_wp2_with fail
    have hBs13 := By.ofNew w12a (leB i 4) 4 (by rw [leB_len]; exact Nat.le_refl _)
    rw [leB_len, le_cells i (by omega)] at hBs13
    have hM13 := hM12.quiet ((Kept.refl (fun _ => False) w12a).alloc (.cells #[.int .u8 i, .int .u8 0, .int .u8 0, .int .u8 0] 5))
    have hK13 := hK12.alloc (.cells #[.int .u8 i, .int .u8 0, .int .u8 0, .int .u8 0] 5)
    have hC13 : (w12a.alloc (.cells #[.int .u8 i, .int .u8 0, .int .u8 0, .int .u8 0] 5)).cell? ⟨q, 7, none⟩ = some lv := (World.cell?_alloc_lt _ _ _ (by exact hM12.blk.lt)).trans hC12
    have hgb13 : wr.heap.size ≤ w12a.heap.size := hK12.size
    refine hQ' _ _ hC13 ?_
    clear hQ' Q'
    generalize w12a.alloc (.cells #[.int .u8 i, .int .u8 0, .int .u8 0, .int .u8 0] 5) = w13a at *
    generalize w12a.heap.size = gb13 at *
    refine mix_done ?_
    try simp only [Act.put, List.setIfInBounds_toArray, List.set_cons_succ, List.set_cons_zero]
    refine tree_fork1 [false, false, false, false, false, false, false, false, true, false, false, false, false, false, false, false, false] [true, true, true, true, true, false, false, false, false, false, false, true, true, true, true, true, true] (by kernel_rfl) ?_
    simp only [keep]
    have hcv14 : (convert 39 9 (.slice (some ⟨gb13, 0, none⟩) 4 4)).run Tryz.prog w13a = .ok (sV (leB i 4)) w13a := hBs13.conv Tryz.underlying39 Tryz.underlying5 Tryz.underlying9
    refine mix_k hC13 fun Q' hQ' => ?_
    go_wp2_with fail
    refine hQ' _ _ hC13 ?_
    clear hQ' Q' hcv14
    refine mix_done ?_
    try simp only [Act.put, List.setIfInBounds_toArray, List.set_cons_succ, List.set_cons_zero]
    refine tree_fork1 [false, false, false, false, false, false, false, false, false, false, false, true, true, false, false, false, false] [true, true, true, true, true, false, false, false, false, false, false, false, false, true, true, true, true] (by kernel_rfl) ?_
    simp only [keep]
    refine mix_build1 hC13 rfl 70 _ rfl [(0, sV (leB i 4)), (1, .int .i64 ((L1.length : Int) + 1))] rfl (.agg #[sV (leB i 4), .int .i64 ((L1.length : Int) + 1)]) (fun w' => ent_build _ _ w') ?_
    try simp only [Act.put, List.setIfInBounds_toArray, List.set_cons_succ, List.set_cons_zero]
    refine mix_k hC13 fun Q' hQ' => ?_
    go_wp2_with fail
    have hC15 : (w13a.alloc (.cells #[sV (leB i 4), .int .i64 ((L1.length : Int) + 1)] 70)).cell? ⟨q, 7, none⟩ = some lv := (World.cell?_alloc_lt _ _ _ (by exact hM13.blk.lt)).trans hC13
    refine hQ' _ _ hC15 ?_
    clear hQ' Q'
    refine mix_done ?_
    try simp only [Act.put, List.setIfInBounds_toArray, List.set_cons_succ, List.set_cons_zero]
    refine tree_fork1 [false, true, true, true, true, false, false, false, false, false, false, false, false, true, false, false, false] [true, false, false, false, false, false, false, false, false, false, false, false, false, false, true, true, true] (by kernel_rfl) ?_
    simp only [keep]
    refine mix_w1 ?_; go_big_quiet_step (fail); refine wpQuiet_nil ?_
    refine mix_w1 ?_; go_big_quiet_step (fail); refine wpQuiet_nil ?_
    refine mix_w1 ?_; go_big_quiet_step (fail); refine wpQuiet_nil ?_
    refine mix_load1 hC15 rfl 65 (.tmp 39) rfl naEnts ⟨q, 7, none⟩ lv rfl (fun _ h => h) ?_
    try simp only [Act.put, List.setIfInBounds_toArray, List.set_cons_succ, List.set_cons_zero]
    refine mix_t fun Q' hQ' => ?_
    refine wpList_pushG (w := w13a) rfl (.tmp 40) (.tmp 48) 65 rfl Tryz.underlying65 hE0 hE1 hE2 hE3 rfl (by omega) lv ((entA L.length i).map ecell) (ecell (leB i 4, (L1.length : Int) + 1)) rfl rfl hM13.ent rfl (ecell_one _) (by simp [entA]; omega) (by omega) ?_
    intro g5 cap5 w5 hS5 hk5 hg5
    refine hQ' _ _ ?_
    clear hQ' Q'
    try simp only [Act.put, List.setIfInBounds_toArray, List.set_cons_succ, List.set_cons_zero]
    rw [show ((entA L.length i).map ecell).length = i by simp [entA]]
    have hqlv : lv.ownBlock ≠ some q := fun e => (hM13.dl q e).2 rfl
    have hb5 := hk5.blk hqlv hM13.blk
    have hb5c : w5.cell? ⟨q, 7, none⟩ = some lv := hb5.cell 7
    have hb5f := hb5.frozen 7
    have hb5l := hb5.lt
    refine mix_done ?_
    try simp only [Act.put, List.setIfInBounds_toArray, List.set_cons_succ, List.set_cons_zero]
    refine tree_fork1 [true, false, false, false, false, false, false, false, false, false, false, false, false, false, true, true, true] [false, false, false, false, false, false, false, false, false, false, false, false, false, false, false, false, false] (by kernel_rfl) ?_
    simp only [keep]
    refine mix_w1 ?_; go_big_quiet_step (fail); refine wpQuiet_nil ?_
    refine mix_w1 ?_; go_big_quiet_step (fail); refine wpQuiet_nil ?_
    refine mix_w1 ?_; go_big_quiet_step (fail); refine wpQuiet_nil ?_
    refine mix_t fun Q' hQ' => ?_
    go_wp2_with fail
    refine mix_done ?_
    try simp only [Act.put, List.setIfInBounds_toArray, List.set_cons_succ, List.set_cons_zero]
    refine tree_last (by kernel_rfl) ?_
    simp only [keep]
    refine mix_done ?_
    try simp only [Act.put, List.setIfInBounds_toArray, List.set_cons_succ, List.set_cons_zero]
    have hlen5 : ((entA L.length i).map ecell).length = i := by simp [entA]
    rw [hlen5] at hS5
    have hg5q : g5 ≠ q := fun e => by
      rcases hg5 with h | h
      · exact hqlv (by rw [← e]; exact h)
      · have h9 : q < w13a.heap.size := hM13.blk.lt
        omega
    have hw0 := hK13.size
    have hg5r : r0 < g5 := by
      rcases hg5 with h | h
      · exact HOWN.out g5 h
      · have := HB.out.lt; omega
    have hk6 : Kept (fun k => k = q) w5 (w5.setCell ⟨q, 7, none⟩ (.slice (some ⟨g5, 0, none⟩) (i + 1) cap5)) := Kept.setCell (F := fun k => k = q) (Kept.refl _ w5) (fun _ => rfl) _
    have hkk : Kept (fun k => k = q ∨ lv.ownBlock = some k) w13a (w5.setCell ⟨q, 7, none⟩ (.slice (some ⟨g5, 0, none⟩) (i + 1) cap5)) := (hk5.mono (fun _ _ e => .inr e)).trans hk6 (fun _ _ e => .inl e)
    have hS6 := Sg.kept hk6 hS5 (fun g' hg' e => hg5q (by have e1 : g5 = g' := Option.some.inj hg'; have e : g' = q := e; omega))
    have hE' : (entA L.length (i + 1)) = entA L.length i ++ [(leB i 4, (L1.length : Int) + 1)] := by rw [entA_succ, HGR.out.len]
    have hM6 := hM13.ents (lv' := (.slice (some ⟨g5, 0, none⟩) (i + 1) cap5)) (E' := entA L.length (i + 1)) hkk (by exact hb5.set_ 7 (.slice (some ⟨g5, 0, none⟩) (i + 1) cap5)) (by rw [hE', List.map_append]; exact hS6) (fun g hg => by
        have e1 : g5 = g := Option.some.inj hg
        subst e1
        exact hg5)
      (fun y hy => by
        rw [hE'] at hy
        rcases List.mem_append.1 hy with hy | hy
        · exact hM13.ids y hy
        · rw [List.mem_singleton.1 hy]
          exact ⟨L1.length, ⟨g4, cv4, List.replicate vn 0, true, (hidN timer : Nat), false⟩, rfl, by rw [List.getElem?_append_right (Nat.le_refl _), Nat.sub_self]; rfl, by simp⟩)
      (by
        rw [hE', List.map_append, List.nodup_append]
        refine ⟨hM13.nd, by simp, fun a ha b hb e => ?_⟩
        rw [List.map_cons, List.map_nil, List.mem_singleton] at hb
        obtain ⟨y, hy, e2⟩ := List.mem_map.1 ha
        exact lookS_none_all (entA_none L.length (n := i) (by omega)) y hy (e2.trans (e.trans hb)))
      (by simp [entA]; omega)
    have hB6 : Blk (w5.setCell ⟨q, 7, none⟩ (.slice (some ⟨g5, 0, none⟩) (i + 1) cap5)) r0 23 #[.int .i64 1, .int .i64 key, .int .i64 (vn : Int), .int .i64 (nn : Int), .bool timer, .int .i64 type] := hkk.blk (fun e => by
        rcases e with e | e
        · omega
        · have := HOWN.out r0 e; omega) (hK13.blk (fun e => HR0.out e) HB.out)
    have hK6 : Kept (fun k => k ∈ blM mp v L) w (w5.setCell ⟨q, 7, none⟩ (.slice (some ⟨g5, 0, none⟩) (i + 1) cap5)) := (HK.out.trans hK13 (fun k hk e => (HIN1.out k e).resolve_right (by rw [hr0] at hk; omega))).trans hkk (fun k hk e => by
        rw [hr0] at hk
        rcases e with e | e
        · omega
        · have := HOWN.out k e; omega)
    have hfin4 : ∀ k ∈ blM mp v4 (L1 ++ [⟨g4, cv4, List.replicate vn 0, true, (hidN timer : Nat), false⟩]), k ∈ blM mp v L ∨ r0 < k := fun k hk => by
      rcases hfp12 k (.inr (.inr (.inr hk))) with e | e
      · rcases e with e | e | e | e
        · exact .inr (by have e : k = q := e; omega)
        · exact .inr (HOWN.out k e)
        · simp [Value.ownBlock] at e
        · exact HIN1.out k e
      · have := hK0.size
        have := HB.out.lt
        exact .inr (by omega)
    have hgr4 : Gr L (L1 ++ [⟨g4, cv4, List.replicate vn 0, true, (hidN timer : Nat), false⟩]) vn (hidN timer) (i + 1) := by
      have hgr := HGR.out
      have hlen := hgr.len
      refine ⟨by simp; omega, fun j hj => ?_, fun j hj => ?_⟩
      · rw [List.getElem?_append_left (by omega)]
        exact hgr.pre j hj
      · by_cases e : j < i
        · obtain ⟨r, h1, h2⟩ := hgr.new j e
          exact ⟨r, by rw [List.getElem?_append_left (by omega)]; exact h1, h2⟩
        · obtain rfl : j = i := by omega
          exact ⟨⟨g4, cv4, List.replicate vn 0, true, (hidN timer : Nat), false⟩, by rw [← hlen, List.getElem?_append_right (Nat.le_refl _), Nat.sub_self]; rfl, rfl, rfl, rfl, rfl⟩
    have H6 := Lib.hid (And.intro hM6 (And.intro hB6 (And.intro hK6 (And.intro hfin4 hgr4))))
    clear hM6 hB6 hK6 hS5 hS6 hk6 hkk hb5 hb5c hb5f hfin4 hgr4 hE'
    generalize (w5.setCell ⟨q, 7, none⟩ (.slice (some ⟨g5, 0, none⟩) (i + 1) cap5)) = w6 at *
    go_wp2_with fail
    exact ⟨⟨i + 1, v4, (.slice (some ⟨g5, 0, none⟩) (i + 1) cap5), _, by simp, by omega, H6.out.1, fun g hg => (by have e1 : g5 = g := Option.some.inj hg; omega), H6.out.2.2.2.1, H6.out.2.2.2.2, H6.out.2.1, H6.out.2.2.1⟩, by simp [intOf]; omega⟩

end Go.Proofs.YtahabogjfcdjkaaGreat
