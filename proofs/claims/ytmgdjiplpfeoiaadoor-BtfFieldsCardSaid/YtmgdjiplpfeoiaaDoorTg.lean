import Derived.Test.YtmgdjiplpfeoiaaDoorTq
set_option linter.unusedSimpArgs false
set_option linter.unusedVariables false
namespace Go.Proofs.YtmgdjiplpfeoiaaDoor
open Go.RowKit

def memberB (l : List Ty) (off n : Int) (m : Mb) : Bool := decide (m.bits.tdiv 8 ≤ off) && decide (off + n ≤ m.bits.tdiv 8 + sizeL l m.type)
abbrev mbVals (m : Mb) : Array Value := #[nV m.name, .int .i64 m.type, .int .i64 m.bits]
def mb0 : Mb := ⟨[], 0, 0⟩
def memberR (l : List Ty) (off n : Int) (ms : List Mb) : Mb × Bool := match ms.find? (memberB l off n) with
  | some m => (m, true)
  | none => (mb0, false)

set_option maxHeartbeats 4000000 in
set_option maxRecDepth 100000 in
theorem member_any (l : List Ty) (a : Option Addr) (c : Nat) (i : Nat) (t : Ty) (ma : Option Addr) (mc : Nat) (off n : Int) (w : World) (h : Tys w (.slice a l.length c) l) (hg : Good l) (ht : l[i]? = some t) (hk : t.kind = 4) (hm : Mbs w (.slice ma t.mem.length mc) t.mem) (ho : 0 ≤ off ∧ off ≤ 1000000) (hn : 0 ≤ n ∧ n ≤ 8) :
    Calls Tryd.prog 26 #[.slice a l.length c, .agg (tyVals t (.slice ma t.mem.length mc)), .int .i64 off, .int .i64 n] w fun e w' => e = .returned (.tuple #[.agg (mbVals (memberR l off n t.mem).1), .bool (memberR l off n t.mem).2]) ∧ Kept (fun _ => False) w w' := by
  have h256 := hg.fit.len
  have h64 := hg.fit.mem t (List.mem_of_getElem? ht)
  have hbits := hg.bits t (List.mem_of_getElem? ht)
  have hin : ∀ m ∈ t.mem, 1 ≤ m.type ∧ m.type ≤ (l.length : Int) := fun m hm => by
    refine whole_closed (alone_sized (hg.alone i t ht)).2.1 m.type ?_
    unfold holdsL
    rw [if_neg (by omega), if_pos hk]
    exact List.mem_map.2 ⟨m, hm, rfl⟩
  clear hk
  go_enter Tryd.func26, Tryd.ntmps26
  go_wp2_with fail
  have hB0 : Blk ((w.alloc (.cells (tyVals t (.slice ma t.mem.length mc)) 38)).alloc (.cells (mbVals mb0) 42)) (w.heap.size + 1) 42 (mbVals mb0) := by
    have := Blk.new (w.alloc (.cells (tyVals t (.slice ma t.mem.length mc)) 38)) 42 (mbVals mb0)
    rw [alloc_size] at this
    exact this
  go_loopw [16] (fun iv wr => ∃ j : Nat, iv = .int .i64 j ∧ j ≤ t.mem.length ∧ (t.mem.take j).find? (memberB l off n) = none ∧ Blk wr (w.heap.size + 1) 42 (mbVals mb0) ∧ Kept (fun _ => False) w wr) (fun iv _ => t.mem.length - (intOf iv).toNat)
  case atStart => exact ⟨0, rfl, Nat.zero_le _, rfl, hB0, ((Kept.refl _ w).alloc _).alloc _⟩
  case round =>
    obtain ⟨j, rfl, hj, hnone, hb, hK⟩ := hrel
    by_cases hlt : j < t.mem.length
    case neg =>
      obtain rfl : j = t.mem.length := by omega
      rw [List.take_length] at hnone
      have hR : memberR l off n t.mem = (mb0, false) := by unfold memberR; rw [hnone]
      have hb0 := hb.cell
      have hf0 := hb.frozen
      go_wp2_with fail
      have hb1 := ((hb.set_ 0 (nV [])).set_ 1 (.int .i64 0)).set_ 2 (.int .i64 0)
      have hc1 := hb1.cell
      refine bodyPost_ret (v := .tuple #[.agg (mbVals mb0), .bool false]) (by simp [results, Tryd.results26, go_sem, hc1, mb0]) rfl ⟨by rw [hR], ?_⟩
      have hlt : ∀ o, (⟨w.heap.size + 1, o, none⟩ : Addr).block < w.heap.size → False := fun o h => by
        have h : w.heap.size + 1 < w.heap.size := h
        omega
      exact ((hK.setCell (p := ⟨w.heap.size + 1, 0, none⟩) (hlt 0) _).setCell (p := ⟨w.heap.size + 1, 1, none⟩) (hlt 1) _).setCell (p := ⟨w.heap.size + 1, 2, none⟩) (hlt 2) _
    case pos =>
      obtain ⟨m, hmi⟩ : ∃ m, t.mem[j]? = some m := ⟨_, List.getElem?_eq_getElem hlt⟩
      have hmm := List.mem_of_getElem? hmi
      obtain ⟨hb1, hb2⟩ := hbits m hmm
      obtain ⟨hm1, hm2⟩ := hin m hmm
      obtain ⟨gm, om, rfl, hgm, d0, d1, d2⟩ := (hm.kept hK).at_ hmi
      have hkB : Kept (fun _ => False) wr (wr.alloc (.cells (mbVals m) 42)) := (Kept.refl _ wr).alloc _
      have hBm := Blk.new wr 42 (mbVals m)
      have hbB := hkB.blk (fun h => h) hb
      have hq1 : -1152921504606846976 ≤ m.bits.tdiv 8 ∧ m.bits.tdiv 8 ≤ 1152921504606846976 := by
        rcases Int.le_total 0 m.bits with h | h
        · rw [Int.tdiv_eq_ediv_of_nonneg h]; omega
        · have : m.bits.tdiv 8 = -((-m.bits).tdiv 8) := by rw [Int.neg_tdiv]; omega
          rw [this, Int.tdiv_eq_ediv_of_nonneg (by omega)]
          omega
      have hmb : memberB l off n m = (decide (m.bits.tdiv 8 ≤ off) && decide (off + n ≤ m.bits.tdiv 8 + sizeL l m.type)) := rfl
      have hnx : (t.mem.take (j + 1)).find? (memberB l off n) = if memberB l off n m = true then some m else none := by
        rw [List.take_add_one, hmi, List.find?_append, hnone]
        simp only [Option.none_or, Option.toList_some, List.find?_cons, List.find?_nil]
        cases memberB l off n m <;> rfl
      have hhit : memberB l off n m = true → memberR l off n t.mem = (m, true) := fun h => by
        have h1 := hnx
        rw [if_pos h] at h1
        have : t.mem.find? (memberB l off n) = some m := by
          conv => lhs; rw [← List.take_append_drop (j + 1) t.mem]
          rw [List.find?_append, h1]
          rfl
        unfold memberR
        rw [this]
      have HMB := Lib.hid hmb
      have HNX := Lib.hid hnx
      have HHIT := Lib.hid hhit
      clear hmb hnx hhit
      generalize hqq : m.bits.tdiv 8 = q at *
      by_cases h1 : q ≤ off
      case neg =>
        have hf : memberB l off n m = false := by rw [HMB.out]; simp [h1]
        have hnx := HNX.out
        rw [if_neg (by rw [hf]; simp)] at hnx
        go_wp2_with fail
        go_roundw
        case rel => exact ⟨j + 1, by go_num, by omega, hnx, hbB, hK.alloc _⟩
        case measure => simp [intOf]; omega
      obtain ⟨k, hk⟩ : ∃ k : Nat, m.type = (k : Int) + 1 := ⟨(m.type - 1).toNat, by omega⟩
      have hsr := hg.size_range (rk l m.type + 1) m.type (by omega) hm1 hm2
      have IH := Lib.hid (show ∀ W, Tys W (.slice a l.length c) l → Calls Tryd.prog 24 #[.slice a l.length c, .int .i64 m.type] W (fun e w' => e = .returned (.int .i64 (sizeL l m.type)) ∧ Kept (fun _ => False) W w') from fun W hW => by
        rw [hk]
        exact size_ih l a c hg (rk l ((k : Int) + 1) + 1) k W hW (by omega) (by omega))
      clear hk
      go_wp2_with fail
      refine (IH.out _ ((h.kept hK).kept hkB)).mono ?_
      rintro e w2 ⟨rfl, hk2⟩
      have hb2 := hk2.blk (fun h => h) hbB
      have hBm2 := hk2.blk (fun h => h) hBm
      have hK2 := (hK.trans hkB (fun _ _ h => h)).trans hk2 (fun _ _ h => h)
      by_cases h2 : off + n ≤ q + sizeL l m.type
      · have hf : memberB l off n m = true := by rw [HMB.out]; simp [h1, h2]
        have hR := HHIT.out hf
        have hc2 := hBm2.cell
        have hb0 := hb2.cell
        have hf0 := hb2.frozen
        go_wp2_with fail
        have hb1 := ((hb2.set_ 0 (nV m.name)).set_ 1 (.int .i64 m.type)).set_ 2 (.int .i64 m.bits)
        have hc1 := hb1.cell
        refine bodyPost_ret (v := .tuple #[.agg (mbVals m), .bool true]) (by simp [results, Tryd.results26, go_sem, hc1, mb0]) rfl ⟨by rw [hR], ?_⟩
        have hlt : ∀ o, (⟨w.heap.size + 1, o, none⟩ : Addr).block < w.heap.size → False := fun o h => by
          have h : w.heap.size + 1 < w.heap.size := h
          omega
        exact ((hK2.setCell (p := ⟨w.heap.size + 1, 0, none⟩) (hlt 0) _).setCell (p := ⟨w.heap.size + 1, 1, none⟩) (hlt 1) _).setCell (p := ⟨w.heap.size + 1, 2, none⟩) (hlt 2) _
      · have hf : memberB l off n m = false := by rw [HMB.out]; simp [h2]
        have hnx := HNX.out
        rw [if_neg (by rw [hf]; simp)] at hnx
        go_wp2_with fail
        go_roundw
        case rel => exact ⟨j + 1, by go_num, by omega, hnx, hb2, hK2⟩
        case measure => simp [intOf]; omega

end Go.Proofs.YtmgdjiplpfeoiaaDoor
