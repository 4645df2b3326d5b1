import Derived.Test.YtlkgmcacbfoijaaGreatZai
set_option linter.unusedSimpArgs false
set_option linter.unusedVariables false
namespace Go.Proofs.YtlkgmcacbfoijaaGreat
open Go.RowKit

/-! ### split -/
abbrev Pt2 := Int × Int
def pcell (p : Pt2) : List Value := [.int .i64 p.1, .int .i64 p.2]
abbrev Pts (w : World) (v : Value) (P : List Pt2) : Prop := Sl w 111 2 v (P.map pcell)
theorem infoP : (Tryz.prog.info? 111).map (fun i => (i.zero, i.size, i.bytes)) = some (some (.agg #[.int .i64 0, .int .i64 0]), 2, 16) := by kernel_rfl
def partAt (B : List Int) (n : Int) (i : Nat) : Pt2 := (B.getD i 0, if i + 1 < B.length then B.getD (i + 1) 0 else n)
def partsOf (B : List Int) (n : Int) : List Pt2 := (List.range B.length).map (partAt B n)
theorem Ints.at_ {w : World} {v : Value} {L : List Int} (h : Ints w v L) {i : Nat} (hi : i < L.length) : ∃ g c, v = .slice (some ⟨g, 0, none⟩) L.length c ∧ g < w.heap.size ∧ w.cell? ⟨g, i, none⟩ = some (.int .i64 (L.getD i 0)) := by
  obtain ⟨g, c, rfl, hc, hg⟩ := Sl.some_ h (by rw [List.length_map]; omega)
  rw [List.length_map] at *
  exact ⟨g, c, rfl, hg, Ints.cell h (by rw [List.getD_eq_getElem?_getD, List.getElem?_eq_getElem hi]; rfl)⟩
set_option maxHeartbeats 4000000 in
set_option maxRecDepth 100000 in
theorem split_any (n : Nat) (a : Option Addr) (c : Nat) (B : List Int) (bv : Value) (w : World) (hB : Ints w bv B) (hlen : B.length ≤ 2000000) :
    Calls Tryz.prog 44 #[.slice a n c, bv] w fun e w' => ∃ ov, e = .returned ov ∧ Pts w' ov (partsOf B n) ∧ Kept (fun _ => False) w w' ∧ ∀ g, ov.ownBlock = some g → w.heap.size ≤ g := by
  obtain ⟨i0, hI0, hI1, hI2, hI3⟩ := info_parts infoP
  obtain ⟨bA, bc, hbv⟩ := Sl.any hB
  rw [List.length_map] at hbv
  subst hbv
  go_enter Tryz.func44, Tryz.ntmps44
  go_wp2_with fail
  go_loopw [5, 11] (fun ov iv wr => ∃ i : Nat, iv = .int .i64 i ∧ i ≤ B.length ∧ Pts wr ov ((List.range i).map (partAt B n)) ∧ Kept (fun _ => False) w wr ∧ ∀ g, ov.ownBlock = some g → w.heap.size ≤ g) (fun _ iv _ => B.length - (intOf iv).toNat)
  case atStart => exact ⟨0, rfl, by omega, Sl.nil _ _ _, Kept.refl _ _, fun g hg => by simp [Value.ownBlock] at hg⟩
  case round =>
    obtain ⟨i, rfl, hi, hP, hK, hown⟩ := hrel
    by_cases hlt : i < B.length
    case neg =>
      obtain rfl : i = B.length := by omega
      go_wp2_with fail
      go_ret
      exact ⟨_, rfl, hP, hK, hown⟩
    case pos =>
      have hB2 := Sl.kept hK hB (fun _ _ h => h)
      obtain ⟨g, bc', hv, hg, d0⟩ := Ints.at_ hB2 hlt
      obtain ⟨rfl, -, rfl⟩ := Value.slice.inj hv
      have hml : ((List.range i).map (partAt B n)).length = i := by simp
      have hnx : (List.range (i + 1)).map (partAt B n) = (List.range i).map (partAt B n) ++ [partAt B n i] := by rw [List.range_succ, List.map_append]; rfl
      by_cases hl1 : i + 1 < B.length
      · obtain ⟨g', bc', hv', hg', d1⟩ := Ints.at_ hB2 hl1
        cases hv'
        have hpa : partAt B n i = (B.getD i 0, B.getD (i + 1) 0) := by unfold partAt; rw [if_pos hl1]
        rw [hpa] at hnx
        have HNX := Lib.hid hnx
        have HOWN := Lib.hid hown
        have HML := Lib.hid hml
        clear hnx hpa hown hml hB2 hB hv
        generalize B.getD i 0 = f at *
        generalize B.getD (i + 1) 0 = t at *
        go_wp2_with (at_builtin; refine wpList_push (w := wr) rfl (.tmp 28) (.tmp 32) 81 rfl Tryz.underlying81 hI0 hI1 hI2 hI3 rfl (by omega) u5 (((List.range i).map (partAt B n)).map pcell) (pcell (f, t)) rfl rfl hP rfl (by simp [pcell, Value.oneCell']) (by rw [List.length_map, HML.out]; omega) (by omega) ?_; intro g5 cap5 w5 hS5 hk5 hg5)
        have hK5 := hK.trans hk5 (fun k hk e => by have := HOWN.out k e; omega)
        have hS6 : Pts w5 (.slice (some ⟨g5, 0, none⟩) (i + 1) cap5) ((List.range (i + 1)).map (partAt B n)) := by
          rw [HNX.out]
          unfold Pts
          rw [List.map_append]
          have h5 := hS5
          rw [List.length_map, HML.out] at h5
          exact h5
        go_roundw
        case rel => exact ⟨i + 1, by go_num, by omega, hS6, hK5, fun g hg => by
          have hg2 : g5 = g := Option.some.inj hg
          subst hg2
          exact hg5.elim (HOWN.out _) (fun h => Nat.le_trans hK.size h)⟩
        case measure => simp [intOf]; omega
      · have hpa : partAt B n i = (B.getD i 0, (n : Int)) := by unfold partAt; rw [if_neg hl1]
        rw [hpa] at hnx
        have HNX := Lib.hid hnx
        have HOWN := Lib.hid hown
        have HML := Lib.hid hml
        clear hnx hpa hown hml hB2 hB hv
        generalize B.getD i 0 = f at *
        go_wp2_with (at_builtin; refine wpList_push (w := wr) rfl (.tmp 28) (.tmp 32) 81 rfl Tryz.underlying81 hI0 hI1 hI2 hI3 rfl (by omega) u5 (((List.range i).map (partAt B n)).map pcell) (pcell (f, (n : Int))) rfl rfl hP rfl (by simp [pcell, Value.oneCell']) (by rw [List.length_map, HML.out]; omega) (by omega) ?_; intro g5 cap5 w5 hS5 hk5 hg5)
        have hK5 := hK.trans hk5 (fun k hk e => by have := HOWN.out k e; omega)
        have hS6 : Pts w5 (.slice (some ⟨g5, 0, none⟩) (i + 1) cap5) ((List.range (i + 1)).map (partAt B n)) := by
          rw [HNX.out]
          unfold Pts
          rw [List.map_append]
          have h5 := hS5
          rw [List.length_map, HML.out] at h5
          exact h5
        go_roundw
        case rel => exact ⟨i + 1, by go_num, by omega, hS6, hK5, fun g hg => by
          have hg2 : g5 = g := Option.some.inj hg
          subst hg2
          exact hg5.elim (HOWN.out _) (fun h => Nat.le_trans hK.size h)⟩
        case measure => simp [intOf]; omega

end Go.Proofs.YtlkgmcacbfoijaaGreat

set_option linter.unusedSimpArgs false
set_option linter.unusedVariables false
namespace Go.Proofs.YtlkgmcacbfoijaaGreat
open Go.RowKit

/-! ### ended -/
structure PtsOk (l : List In) (P : List Pt2) : Prop where
  rng : ∀ p ∈ P, 0 ≤ p.1 ∧ p.1 < p.2 ∧ p.2 ≤ l.length
theorem PtsOk.nat {l : List In} {P : List Pt2} (h : PtsOk l P) {i : Nat} {p : Pt2} (hp : P[i]? = some p) : ∃ f t : Nat, p = ((f : Int), (t : Int)) ∧ f < t ∧ t ≤ l.length := by
  obtain ⟨h1, h2, h3⟩ := h.rng p (List.mem_of_getElem? hp)
  refine ⟨p.1.toNat, p.2.toNat, ?_, by omega, by omega⟩
  rw [Int.toNat_of_nonneg h1, Int.toNat_of_nonneg (by omega)]
theorem Pts.at_ {w : World} {v : Value} {P : List Pt2} (h : Pts w v P) {i : Nat} {f t : Int} (hp : P[i]? = some (f, t)) : ∃ g c, v = .slice (some ⟨g, 0, none⟩) P.length c ∧ g < w.heap.size ∧ w.cell? ⟨g, i * 2, none⟩ = some (.int .i64 f) ∧ w.cell? ⟨g, i * 2 + 1, none⟩ = some (.int .i64 t) := by
  have hi := (List.getElem?_eq_some_iff.1 hp).1
  obtain ⟨g, c, rfl, hc, hg⟩ := Sl.some_ h (by rw [List.length_map]; omega)
  rw [List.length_map] at *
  have hm : (P.map pcell)[i]? = some (pcell (f, t)) := by rw [List.getElem?_map, hp]; rfl
  exact ⟨g, c, rfl, hg, Sl.cell h hm (k := 0) (by omega), Sl.cell h hm (k := 1) (by omega)⟩
def lastC (l : List In) (t : Nat) : Nat := if (secL l)[t - 1]? = some true then t - 2 else t - 1
def endB (l : List In) (p : Pt2) : Bool := match l[lastC l p.2.toNat]? with
  | some x => x.op == 149 || x.op == 5
  | none => false
def endedC (l : List In) (P : List Pt2) : Int := if 64 < P.length then 17 else if P.all (endB l) = true then 0 else 16
theorem all_take {α : Type} {q : α → Bool} {P : List α} {i : Nat} {p : α} (hp : P[i]? = some p) (h : (P.take i).all q = true) (hq : q p = true) : (P.take (i + 1)).all q = true := by
  rw [List.take_add_one, hp, Option.toList_some, List.all_append, h]
  simp [hq]
theorem all_not {α : Type} {q : α → Bool} {P : List α} {i : Nat} {p : α} (hp : P[i]? = some p) (hq : q p = false) : P.all q = false := by
  rw [List.all_eq_false]
  exact ⟨p, List.mem_of_getElem? hp, by simp [hq]⟩
set_option maxHeartbeats 4000000 in
set_option maxRecDepth 100000 in
theorem ended_any (l : List In) (a : Option Addr) (c : Nat) (P : List Pt2) (pv sv : Value) (w : World) (h : Ins w (.slice a l.length c) l) (hok : InsOk l) (hP : Pts w pv P) (hPo : PtsOk l P) (hPl : P.length ≤ 2000000) (hS : Bls w sv (secL l)) :
    Calls Tryz.prog 46 #[.slice a l.length c, pv, sv] w fun e w' => (∃ p : Int, e = .returned (.tuple #[.int .i64 p, .int .i64 (endedC l P)])) ∧ Kept (fun _ => False) w w' := by
  have hlen := hok.len
  obtain ⟨r, hr⟩ : ∃ r, endedC l P = r := ⟨_, rfl⟩
  rw [hr]
  unfold endedC at hr
  obtain ⟨pA, pc, hpv⟩ := Sl.any hP
  rw [List.length_map] at hpv
  subst hpv
  by_cases h64 : 64 < P.length
  · rw [if_pos h64] at hr
    subst hr
    go_enter Tryz.func46, Tryz.ntmps46
    go_wp2_with fail
    go_ret2
    exact ⟨⟨_, rfl⟩, Kept.refl _ w⟩
  rw [if_neg h64] at hr
  have HR := Lib.hid hr
  clear hr
  go_enter Tryz.func46, Tryz.ntmps46
  go_wp2_with fail
  go_loopw [17] (fun iv wr => ∃ i : Nat, iv = .int .i64 i ∧ i ≤ P.length ∧ (P.take i).all (endB l) = true ∧ Kept (fun _ => False) w wr) (fun iv _ => P.length - (intOf iv).toNat)
  case atStart => exact ⟨0, rfl, by omega, rfl, Kept.refl _ _⟩
  case round =>
    obtain ⟨i, rfl, hi, hall, hK⟩ := hrel
    by_cases hlt : i < P.length
    case neg =>
      obtain rfl : i = P.length := by omega
      rw [List.take_length] at hall
      have hr := HR.out
      rw [if_pos hall] at hr
      subst hr
      clear hall HR
      go_wp2_with fail
      go_ret2
      exact ⟨⟨_, rfl⟩, hK⟩
    case pos =>
      obtain ⟨p, hp⟩ : ∃ p, P[i]? = some p := ⟨_, List.getElem?_eq_getElem hlt⟩
      obtain ⟨f, t, rfl, hft, htl⟩ := hPo.nat hp
      obtain ⟨pg, pc', hpv, hpg, p0, p1⟩ := Pts.at_ (Sl.kept hK hP (fun _ _ h => h)) hp
      obtain ⟨rfl, -, rfl⟩ := Value.slice.inj hpv
      obtain ⟨m, rfl⟩ : ∃ m, t = m + 1 := ⟨t - 1, by omega⟩
      have hS2 := Sl.kept hK hS (fun _ _ h => h)
      obtain ⟨b, hb⟩ : ∃ b, (secL l)[m]? = some b := ⟨_, List.getElem?_eq_getElem (by rw [sec_len]; omega)⟩
      obtain ⟨g, sc, hsv, hg, d0⟩ := Bls.at_ hS2 hb
      rw [sec_len] at hsv
      subst hsv
      have hE : endB l ((f : Int), ((m + 1 : Nat) : Int)) = match l[if b = true then m - 1 else m]? with
          | some x => x.op == 149 || x.op == 5
          | none => false := by
        unfold endB lastC
        simp only [Int.toNat_natCast, Nat.add_sub_cancel, hb]
        cases b <;> simp [show m + 1 - 2 = m - 1 by omega]
      have hIn := h.kept hK
      cases b with
      | false =>
        obtain ⟨x, hx⟩ : ∃ x, l[m]? = some x := ⟨_, List.getElem?_eq_getElem (by omega)⟩
        obtain ⟨lg, lo, rfl, hlg, c0, c1, c2, c3, c4⟩ := hIn.at_ hx
        simp only [Bool.false_eq_true, if_false, hx] at hE
        have hpc : ((m + 1 : Nat) : Int) = (m : Int) + 1 := by omega
        have HA1 := Lib.hid (fun hq => all_take (q := endB l) hp hall hq)
        have HA2 := Lib.hid (fun hq => all_not (q := endB l) hp hq)
        rw [hpc] at p1
        have HE := Lib.hid hE
        have hml : m < l.length := by omega
        clear hx hE hpc hb hp hall hS2 hS hP hPo h hIn hok hpv c1 c2 c3 c4
        cases q1 : (x.op == 149) <;> cases q2 : (x.op == 5)
        case false.false =>
          have hr := HR.out
          rw [HA2.out (by rw [HE.out, q1, q2]; rfl)] at hr
          simp only [Bool.false_eq_true, if_false] at hr
          subst hr
          have q1' : (x.op != 149) = true := by simpa using q1
          have q2' : (x.op != 5) = true := by simpa using q2
          clear HR HA1 HA2 HE q1 q2
          go_wp2_with fail
          go_ret2
          exact ⟨⟨_, rfl⟩, hK.alloc _⟩
        all_goals
          have HA := Lib.hid (HA1.out (by rw [HE.out, q1, q2]; rfl))
          have q1' : (x.op != 149) = !(x.op == 149) := rfl
          have q2' : (x.op != 5) = !(x.op == 5) := rfl
          rw [q1] at q1'
          rw [q2] at q2'
          simp only [Bool.not_true, Bool.not_false] at q1' q2'
          clear HR HA1 HA2 HE q1 q2
          go_wp2_with fail
          go_roundw
          case rel => exact ⟨i + 1, by go_num, by omega, HA.out, hK.alloc _⟩
          case measure => simp [intOf]; omega
      | true =>
        obtain ⟨k, rfl⟩ : ∃ k, m = k + 1 := ⟨m - 1, by
          rcases Nat.eq_zero_or_pos m with rfl | h
          · rw [sec_zero (by omega)] at hb; cases hb
          · omega⟩
        obtain ⟨x, hx⟩ : ∃ x, l[k]? = some x := ⟨_, List.getElem?_eq_getElem (by omega)⟩
        obtain ⟨lg, lo, rfl, hlg, c0, c1, c2, c3, c4⟩ := hIn.at_ hx
        simp only [if_true, Nat.add_sub_cancel, hx] at hE
        have hpc : ((k + 1 + 1 : Nat) : Int) = (k : Int) + 1 + 1 := by omega
        have HA1 := Lib.hid (fun hq => all_take (q := endB l) hp hall hq)
        have HA2 := Lib.hid (fun hq => all_not (q := endB l) hp hq)
        rw [hpc] at p1
        have HE := Lib.hid hE
        have hml : k + 1 < l.length := by omega
        clear hx hE hpc hb hp hall hS2 hS hP hPo h hIn hok hpv c1 c2 c3 c4
        cases q1 : (x.op == 149) <;> cases q2 : (x.op == 5)
        case false.false =>
          have hr := HR.out
          rw [HA2.out (by rw [HE.out, q1, q2]; rfl)] at hr
          simp only [Bool.false_eq_true, if_false] at hr
          subst hr
          have q1' : (x.op != 149) = true := by simpa using q1
          have q2' : (x.op != 5) = true := by simpa using q2
          clear HR HA1 HA2 HE q1 q2
          go_wp2_with fail
          go_ret2
          exact ⟨⟨_, rfl⟩, hK.alloc _⟩
        all_goals
          have HA := Lib.hid (HA1.out (by rw [HE.out, q1, q2]; rfl))
          have q1' : (x.op != 149) = !(x.op == 149) := rfl
          have q2' : (x.op != 5) = !(x.op == 5) := rfl
          rw [q1] at q1'
          rw [q2] at q2'
          simp only [Bool.not_true, Bool.not_false] at q1' q2'
          clear HR HA1 HA2 HE q1 q2
          go_wp2_with fail
          go_roundw
          case rel => exact ⟨i + 1, by go_num, by omega, HA.out, hK.alloc _⟩
          case measure => simp [intOf]; omega

end Go.Proofs.YtlkgmcacbfoijaaGreat

set_option linter.unusedSimpArgs false
set_option linter.unusedVariables false
namespace Go.Proofs.YtlkgmcacbfoijaaGreat
open Go.RowKit

/-! ### leads -/
def goC (l : List In) (f t : Nat) (n : Int) : Bool := decide (n < f) || (decide ((t : Int) ≤ n) || ((secL l)[n.toNat]? == some true))
def jbadB (l : List In) (f t i : Nat) : Bool := match l[i]?, (secL l)[i]? with
  | some x, some false => isJumpB x && goC l f t ((i : Int) + 1 + x.off)
  | _, _ => false
def leadB (l : List In) (p : Pt2) : Bool := (List.range (p.2.toNat - p.1.toNat)).all fun k => !jbadB l p.1.toNat p.2.toNat (p.1.toNat + k)
def leadsB (l : List In) (P : List Pt2) : Bool := P.all (leadB l)
theorem range_take (n k : Nat) (h : k < n) : (List.range n)[k]? = some k := by simp [h]
theorem take_range (n k : Nat) (h : k ≤ n) : (List.range n).take k = List.range k := by
  apply List.ext_getElem
  · simp; omega
  · intro i h1 h2; simp
set_option maxHeartbeats 8000000 in
set_option maxRecDepth 100000 in
theorem leads_any (l : List In) (a : Option Addr) (c : Nat) (P : List Pt2) (pv sv : Value) (w : World) (h : Ins w (.slice a l.length c) l) (hok : InsOk l) (hP : Pts w pv P) (hPo : PtsOk l P) (hPl : P.length ≤ 2000000) (hS : Bls w sv (secL l)) :
    Calls Tryz.prog 47 #[.slice a l.length c, pv, sv] w fun e w' => (∃ p : Int, e = .returned (.tuple #[.int .i64 p, .bool (leadsB l P)])) ∧ Kept (fun _ => False) w w' := by
  have hlen := hok.len
  obtain ⟨r, hr⟩ : ∃ r, leadsB l P = r := ⟨_, rfl⟩
  rw [hr]
  unfold leadsB at hr
  have HR := Lib.hid hr
  have HJ := Lib.hid (fun i x W hx hI => jumps_any l a c i x W hI hok hx)
  have HIN := Lib.hid (fun (W : World) (hk : Kept (fun _ => False) w W) => h.kept hk)
  have HS := Lib.hid (fun (W : World) (hk : Kept (fun _ => False) w W) => (Sl.kept hk hS (fun _ _ h => h) : Bls W sv (secL l)))
  obtain ⟨pA, pc, hpv⟩ := Sl.any hP
  rw [List.length_map] at hpv
  subst hpv
  clear hr hok h hS
  go_enter Tryz.func47, Tryz.ntmps47
  go_wp2_with fail
  go_loopw [15] (fun iv wr => ∃ i : Nat, iv = .int .i64 i ∧ i ≤ P.length ∧ (P.take i).all (leadB l) = true ∧ Kept (fun _ => False) w wr) (fun iv _ => P.length - (intOf iv).toNat)
  case atStart => exact ⟨0, rfl, by omega, rfl, Kept.refl _ _⟩
  case round =>
    obtain ⟨i, rfl, hi, hall, hK⟩ := hrel
    by_cases hlt : i < P.length
    case neg =>
      obtain rfl : i = P.length := by omega
      rw [List.take_length] at hall
      have hr := HR.out
      rw [hall] at hr
      subst hr
      clear hall HR
      go_wp2_with fail
      go_ret2
      exact ⟨⟨_, rfl⟩, hK⟩
    case pos =>
      obtain ⟨p, hp⟩ : ∃ p, P[i]? = some p := ⟨_, List.getElem?_eq_getElem hlt⟩
      obtain ⟨f, t, rfl, hft, htl⟩ := hPo.nat hp
      obtain ⟨pg, pc', hpv, hpg, p0, p1⟩ := Pts.at_ (Sl.kept hK hP (fun _ _ h => h)) hp
      obtain ⟨rfl, -, rfl⟩ := Value.slice.inj hpv
      have hlB : leadB l ((f : Int), (t : Int)) = (List.range (t - f)).all fun k => !jbadB l f t (f + k) := rfl
      have HA1 := Lib.hid (fun hq => all_take (q := leadB l) hp hall hq)
      have HA2 := Lib.hid (fun hq => all_not (q := leadB l) hp hq)
      have HLB := Lib.hid hlB
      have hBn := Blk.new wr 111 #[.int .i64 f, .int .i64 t]
      have hKn : Kept (fun _ => False) wr (wr.alloc (.cells #[.int .i64 f, .int .i64 t] 111)) := (Kept.refl _ wr).alloc _
      obtain ⟨W1, rfl⟩ : ∃ W1 : World, W1 = wr := ⟨_, rfl⟩
      clear hlB hp hall hpv
      go_wp2_with fail
      generalize W1.alloc (.cells #[.int .i64 f, .int .i64 t] 111) = wn at *
      go_loopw [10] (fun jv wr => ∃ j : Nat, jv = .int .i64 j ∧ f ≤ j ∧ j ≤ t ∧ ((List.range (j - f)).all fun k => !jbadB l f t (f + k)) = true ∧ Kept (fun _ => False) wn wr) (fun jv _ => t - (intOf jv).toNat)
      case atStart => exact ⟨f, rfl, by omega, by omega, by simp, Kept.refl _ _⟩
      case round =>
        obtain ⟨j, rfl, hj1, hj2, hal, hk2⟩ := hrel
        have hb2 := hk2.blk (fun h => h) hBn
        have x0 := hb2.cell 0
        have x1 := hb2.cell 1
        have hK2 := (hK.trans hKn (fun _ _ h => h)).trans hk2 (fun _ _ h => h)
        by_cases hjt : j < t
        case neg =>
          obtain rfl : j = t := by omega
          have HA := Lib.hid (HA1.out (by rw [HLB.out]; exact hal))
          clear HA1 HA2 HLB hal HR
          go_wp2_with fail
          go_roundw
          case rel => exact ⟨i + 1, by go_num, by omega, HA.out, hK2⟩
          case measure => simp [intOf]; omega
        case pos =>
          obtain ⟨x, hx⟩ : ∃ x, l[j]? = some x := ⟨_, List.getElem?_eq_getElem (by omega)⟩
          obtain ⟨b, hb⟩ : ∃ b, (secL l)[j]? = some b := ⟨_, List.getElem?_eq_getElem (by rw [sec_len]; omega)⟩
          have HC := Lib.hid (HJ.out j x _ hx (HIN.out _ hK2))
          obtain ⟨g, sc, hsv, hg, d0⟩ := Bls.at_ (HS.out _ hK2) hb
          rw [sec_len] at hsv
          subst hsv
          have hjb : jbadB l f t j = (isJumpB x && (!b && goC l f t ((j : Int) + 1 + x.off))) := by
            unfold jbadB
            rw [hx, hb]
            cases b <;> simp
          have hnext : jbadB l f t j = false → ((List.range (j + 1 - f)).all fun k => !jbadB l f t (f + k)) = true := fun hq => by
            rw [show j + 1 - f = j - f + 1 by omega, List.range_succ, List.all_append, hal]
            simp [show f + (j - f) = j by omega, hq]
          have hstop : jbadB l f t j = true → leadB l ((f : Int), (t : Int)) = false := fun hq => by
            rw [HLB.out, List.all_eq_false]
            exact ⟨j - f, by simp; omega, by simp [show f + (j - f) = j by omega, hq]⟩
          have HNX := Lib.hid hnext
          have HST := Lib.hid (fun hq => HA2.out (hstop hq))
          have HJB := Lib.hid hjb
          clear hx hb hjb hnext hstop hal HA1 HA2 HLB
          generalize isJumpB x = ij at *
          generalize ht : (j : Int) + 1 + x.off = n at *
          clear ht
          go_wp2_with fail
          refine HC.out.mono ?_
          rintro e w3 ⟨rfl, hk3⟩
          have hK3 := hK2.trans hk3 (fun _ _ h => h)
          have hk23 := hk2.trans hk3 (fun _ _ h => h)
          have hb3 := hk3.blk (fun h => h) hb2
          have e0 := (hk3.cell (p := ⟨g, j, none⟩) hg (fun h => h)).trans d0
          clear x0 x1 d0 hb2 HC
          have x0 := hb3.cell 0
          have x1 := hb3.cell 1
          clear hb3
          by_cases hgo : ij = true ∧ b = false
          case neg =>
            have HN := Lib.hid (HNX.out (by rw [HJB.out]; cases ij <;> cases b <;> simp_all))
            cases ij <;> cases b
            case true.false => exact absurd ⟨rfl, rfl⟩ hgo
            all_goals
              clear hgo HJB HNX HST
              go_wp2_with fail
              go_roundw
              case rel => exact ⟨j + 1, by go_num, by omega, by omega, HN.out, hk23⟩
              case measure => simp [intOf]; omega
          case pos =>
            obtain ⟨rfl, rfl⟩ := hgo
            have hjb := HJB.out
            simp only [Bool.true_and, Bool.not_false] at hjb
            unfold goC at hjb
            have stop : jbadB l f t j = true → r = false := fun hq => by rw [← HR.out]; exact HST.out hq
            cases q1 : decide (n < f) with
            | true =>
              have hrf : r = false := stop (by rw [hjb, q1]; rfl)
              subst hrf
              clear stop hjb HJB HNX HST HR
              go_wp2_with fail
              go_ret2
              exact ⟨⟨_, rfl⟩, hK3⟩
            | false =>
              cases q2 : decide ((t : Int) ≤ n) with
              | true =>
                have hrf : r = false := stop (by rw [hjb, q1, q2]; rfl)
                subst hrf
                clear stop hjb HJB HNX HST HR
                go_wp2_with fail
                go_ret2
                exact ⟨⟨_, rfl⟩, hK3⟩
              | false =>
                have q1p := of_decide_eq_false q1
                have q2p := of_decide_eq_false q2
                obtain ⟨m, rfl⟩ : ∃ m : Nat, n = m := ⟨n.toNat, by omega⟩
                obtain ⟨bb, hbb⟩ : ∃ bb, (secL l)[m]? = some bb := ⟨_, List.getElem?_eq_getElem (by rw [sec_len]; omega)⟩
                obtain ⟨g', sc', hsv', hg', d1⟩ := Bls.at_ (HS.out _ hK3) hbb
                rw [sec_len] at hsv'
                cases hsv'
                rw [q1, q2, Int.toNat_natCast, hbb] at hjb
                have hml : m < l.length := by omega
                have q1n : decide (m < f) = false := decide_eq_false (by omega)
                have q2n : decide (t ≤ m) = false := decide_eq_false (by omega)
                clear hbb q1p q2p
                cases bb
                · have HN := Lib.hid (HNX.out (by rw [hjb]; rfl))
                  clear stop hjb HJB HNX HST HR
                  go_wp2_with fail
                  go_roundw
                  case rel => exact ⟨j + 1, by go_num, by omega, by omega, HN.out, hk23⟩
                  case measure => simp [intOf]; omega
                · have hrf : r = false := stop (by rw [hjb]; rfl)
                  subst hrf
                  clear stop hjb HJB HNX HST HR
                  go_wp2_with fail
                  go_ret2
                  exact ⟨⟨_, rfl⟩, hK3⟩

end Go.Proofs.YtlkgmcacbfoijaaGreat

