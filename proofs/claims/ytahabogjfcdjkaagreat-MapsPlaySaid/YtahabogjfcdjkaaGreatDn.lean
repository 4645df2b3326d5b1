import Derived.Test.YtahabogjfcdjkaaGreatDm
set_option linter.unusedSimpArgs false
set_option linter.unusedVariables false
namespace Go.Proofs.YtahabogjfcdjkaaGreat
open Go.RowKit

set_option maxHeartbeats 4000000 in
set_option maxRecDepth 100000 in
theorem new_progs (d : Df) (mp : Nat) (v : Value) (L : List Rg) (w : World) (h : IsMem w mp v L) (h2 : d.kind = 3) (hd : defB { d with type := 0 } = true) :
    Calls Tryz.prog 8 #[.agg d.cells, .pointer (some ⟨mp, 0, none⟩)] w fun e w' => ∃ q m pv, e = .returned (.tuple #[.pointer (some ⟨q, 0, none⟩), .int .i64 0]) ∧ Mp w' ⟨q, mp, m, pv, v⟩ ⟨d, [], List.replicate d.entries.toNat (-1)⟩ L ∧ w.heap.size ≤ q ∧ w.heap.size ≤ m ∧ (∀ g, pv.ownBlock = some g → w.heap.size ≤ g) ∧ Kept (fun _ => False) w w' := by
  obtain ⟨kind, key, value, entries, timer, type⟩ := d
  simp only at h2
  subst h2
  have hen : 1 ≤ entries ∧ entries ≤ 64 := by
    have hd2 := hd
    unfold defB kindB3 inB at hd2
    simp at hd2
    omega
  obtain ⟨nn, rfl⟩ : ∃ nn : Nat, entries = nn := ⟨entries.toNat, by omega⟩
  obtain ⟨i0, hI0, hI1, hI2, hI3⟩ := info_parts infoPi
  have hdef := fun W => def_any ⟨3, key, value, (nn : Int), timer, 0⟩ (.slice none 0 0) W rfl (by show (3 : Int) ≠ 4; decide)
  rw [hd] at hdef
  have HDEF := Lib.hid hdef
  clear hdef hd
  unfold Df.cells
  have hmm := @run_makeMap Tryz.prog
  go_enter Tryz.func8, Tryz.ntmps8
  go_wp2_with fail
  refine (HDEF.out _).mono ?_
  rintro e w2 ⟨rfl, hk2⟩
  have hk0 : Kept (fun _ => False) w w2 := Kept.trans (((Kept.refl _ w).alloc _).alloc _) hk2 (fun _ _ h => h)
  have hb2 : Blk w2 w.heap.size 23 #[.int .i64 3, .int .i64 key, .int .i64 value, .int .i64 (nn : Int), .bool timer, .int .i64 type] := hk2.blk (fun h => h) ((Blk.new w _ _).alloc _)
  have hc2 := hb2.cell
  have hs2 := hk0.size
  have hlt := hb2.lt
  have hlt2 : w.heap.size < w2.heap.size + 1 := by omega
  have hmade : Mp ((w2.alloc (.map #[] 0)).alloc (.cells #[.int .i64 3, .int .i64 key, .int .i64 value, .int .i64 (nn : Int), .bool timer, .int .i64 type, .pointer (some ⟨mp, 0, none⟩), .map (some w2.heap.size), .slice none 0 0] 61)) ⟨w2.heap.size + 1, mp, w2.heap.size, .slice none 0 0, v⟩ ⟨⟨3, key, value, (nn : Int), timer, type⟩, [], []⟩ L := by
    refine Mp.made h _ ((hk0.alloc _).alloc _) (by omega) hs2 ?_ ((SMap.made w2).alloc _)
    have := Blk.new (w2.alloc (.map #[] 0)) 61 #[.int .i64 3, .int .i64 key, .int .i64 value, .int .i64 (nn : Int), .bool timer, .int .i64 type, .pointer (some ⟨mp, 0, none⟩), .map (some w2.heap.size), .slice none 0 0]
    have e : (w2.alloc (.map #[] 0)).heap.size = w2.heap.size + 1 := by simp
    rw [e] at this
    exact this
  have hk4 := (hk0.alloc (.map #[] 0)).alloc (.cells #[.int .i64 3, .int .i64 key, .int .i64 value, .int .i64 (nn : Int), .bool timer, .int .i64 type, .pointer (some ⟨mp, 0, none⟩), .map (some w2.heap.size), .slice none 0 0] 61)
  have HM := Lib.hid (And.intro hmade hk4)
  clear hmade hk4
  go_wp2_with fail
  generalize hwm : (w2.alloc (.map #[] 0)).alloc (.cells #[.int .i64 3, .int .i64 key, .int .i64 value, .int .i64 (nn : Int), .bool timer, .int .i64 type, .pointer (some ⟨mp, 0, none⟩), .map (some w2.heap.size), .slice none 0 0] 61) = wm at *
  generalize hq0 : w2.heap.size = m0 at *
  generalize hq : m0 + 1 = q at *
  generalize hr0 : w.heap.size = r0 at *
  clear hwm hc2 hb2
  go_loopw [32] (fun iv wr => ∃ (i : Nat) (pv : Value), iv = .int .i64 i ∧ i ≤ nn ∧ Mp wr ⟨q, mp, m0, pv, v⟩ ⟨⟨3, key, value, nn, timer, type⟩, [], List.replicate i (-1)⟩ L ∧ (∀ g, pv.ownBlock = some g → r0 < g) ∧ Kept (fun _ => False) w wr) (fun iv _ => nn - (intOf iv).toNat)
  case atStart => exact ⟨0, .slice none 0 0, rfl, by omega, HM.out.1, by simp [Value.ownBlock], HM.out.2⟩
  case round =>
  clear HM
  obtain ⟨i, pv, rfl, hi, hM, hown, hK⟩ := hrel
  have hb := hM.blk.cell
  simp only [MS.cells] at hb
  have HM := Lib.hid hM
  have HK := Lib.hid hK
  have HOWN := Lib.hid hown
  have hqlv : pv.ownBlock ≠ some q := fun e => (hM.dp q e).2.1 rfl
  have hqb := hM.blk
  have hprg := hM.prog
  have hkz := hK.size
  clear hM hK hown
  by_cases hlt2 : i < nn
  case neg =>
    obtain rfl : i = nn := by omega
    have hdl : decide ((i : Int) < i) = false := decide_eq_false (by omega)
    clear hqb hprg
    go_wp2_with fail
    go_ret2
    exact ⟨_, _, _, rfl, by rw [Int.toNat_natCast]; exact HM.out, by omega, by omega, fun g hg => by have := HOWN.out g hg; omega, HK.out⟩
  case pos =>
  have hdl : decide ((i : Int) < nn) = true := decide_eq_true (by omega)
  go_wp2_with (at_builtin; refine wpList_push (w := wr) rfl (.tmp 38) (.tmp 39) 59 rfl Tryz.underlying59 hI0 hI1 hI2 hI3 rfl (by omega) pv ((List.replicate i (-1)).map pcell) (pcell (-1)) rfl rfl hprg rfl (pcell_one _) (by simp; omega) (by omega) ?_; intro g5 cap5 w5 hS5 hk5 hg5; have hb5 := hk5.blk hqlv hqb; have hb5c := hb5.cell 8; have hb5f := hb5.frozen 8; have hb5l := hb5.lt)
  have hlen : ((List.replicate i (-1 : Int)).map pcell).length = i := by simp
  have hg5q : g5 ≠ q := fun e => by
    rcases hg5 with h | h
    · exact hqlv (by rw [← e]; exact h)
    · have := hqb.lt; omega
  have hg5r : r0 < g5 := by
    rcases hg5 with h | h
    · exact HOWN.out g5 h
    · have h1 : q < wr.heap.size := hqb.lt
      omega
  have hk6 : Kept (fun k => k = q) w5 (w5.setCell ⟨q, 8, none⟩ (.slice (some ⟨g5, 0, none⟩) (i + 1) cap5)) := Kept.setCell (F := fun k => k = q) (Kept.refl _ w5) (fun _ => rfl) _
  have hkk : Kept (fun k => k = q ∨ pv.ownBlock = some k) wr (w5.setCell ⟨q, 8, none⟩ (.slice (some ⟨g5, 0, none⟩) (i + 1) cap5)) := (hk5.mono (fun _ _ e => .inr e)).trans hk6 (fun _ _ e => .inl e)
  rw [hlen] at hS5
  have hS6 := hS5.kept hk6 (fun g' hg' e => hg5q (by have e1 : g5 = g' := Option.some.inj hg'; have e : g' = q := e; omega))
  have hM6 : Mp (w5.setCell ⟨q, 8, none⟩ (.slice (some ⟨g5, 0, none⟩) (i + 1) cap5)) ⟨q, mp, m0, .slice (some ⟨g5, 0, none⟩) (i + 1) cap5, v⟩ ⟨⟨3, key, value, nn, timer, type⟩, [], List.replicate (i + 1) (-1)⟩ L := by
    have hM := HM.out
    refine ⟨by exact hb5.set_ 8 (.slice (some ⟨g5, 0, none⟩) (i + 1) cap5), hM.map.kept hkk (fun e => ?_), ?_, hM.mem.kept hkk (fun k hk e => ?_), hM.dq, hM.dm, fun g hg => ?_, fun y hy => (nomatch hy), Nat.zero_le _⟩
    · rcases e with e | e
      · exact hM.qm e
      · exact (hM.dp _ e).2.2 rfl
    · show Sl _ _ _ _ ((List.replicate (i + 1) (-1)).map pcell)
      rw [List.replicate_succ', List.map_append]
      exact hS6
    · rcases e with e | e
      · exact hM.dq (by rw [← e]; exact hk)
      · exact (hM.dp k e).1 hk
    · have e1 : g5 = g := Option.some.inj hg
      subst e1
      rcases hg5 with h | h
      · exact hM.dp g5 h
      · have h1 : m0 < wr.heap.size := hM.map.lt
        refine ⟨fun hm => ?_, hg5q, fun e => ?_⟩
        · have := hM.mem.lt hm; omega
        · have e : g5 = m0 := e
          omega
  have hK6 : Kept (fun _ => False) w (w5.setCell ⟨q, 8, none⟩ (.slice (some ⟨g5, 0, none⟩) (i + 1) cap5)) := HK.out.trans hkk (fun k hk e => by
    rw [hr0] at hk
    rcases e with e | e
    · omega
    · have := HOWN.out k e; omega)
  have H6 := Lib.hid (And.intro hM6 hK6)
  clear hM6 hK6 hS5 hS6 hk6 hkk hb5 hb5c hb5f
  generalize w5.setCell ⟨q, 8, none⟩ (.slice (some ⟨g5, 0, none⟩) (i + 1) cap5) = w6 at *
  exact ⟨⟨i + 1, _, by simp, by omega, H6.out.1, fun g hg => by have e1 : g5 = g := Option.some.inj hg; omega, H6.out.2⟩, by simp [intOf]; omega⟩

end Go.Proofs.YtahabogjfcdjkaaGreat
