import Derived.Test.YtdchmelgaljpfaaGreatJj
set_option linter.unusedSimpArgs false
set_option linter.unusedVariables false
namespace Go.Proofs.YtdchmelgaljpfaaGreat
open Go.RowKit

/-! ### ended -/
structure PtsOk (l : List In) (P : List Pt2) : Prop where
  rng : ∀ p ∈ P, 0 ≤ p.1 ∧ p.1 < p.2 ∧ p.2 ≤ l.length
theorem PtsOk.nat {l : List In} {P : List Pt2} (h : PtsOk l P) {i : Nat} {p : Pt2} (hp : P[i]? = some p) : ∃ f t : Nat, p = ((f : Int), (t : Int)) ∧ f < t ∧ t ≤ l.length := by
  obtain ⟨h1, h2, h3⟩ := h.rng p (List.mem_of_getElem? hp)
  refine ⟨p.1.toNat, p.2.toNat, ?_, by omega, by omega⟩
  rw [Int.toNat_of_nonneg h1, Int.toNat_of_nonneg (by omega)]
theorem Pts.at_ {w : World} {v : Value} {P : List Pt2} (h : Pts w v P) {i : Nat} {f t : Int} (hp : P[i]? = some (f, t)) : ∃ g c, v = .slice (some ⟨g, 0, none⟩) P.length c ∧ g < w.heap.size ∧ w.cell? ⟨g, i * 2, none⟩ = some (.int .i64 f) ∧ w.cell? ⟨g, i * 2 + 1, none⟩ = some (.int .i64 t) := by
  have hi := (List.getElem?_eq_some_iff.1 hp).1
  obtain ⟨g, c, rfl, hc, hg⟩ := Sl.some_ h (by rw [List.length_map]; omega)
  rw [List.length_map] at *
  have hm : (P.map pcell)[i]? = some (pcell (f, t)) := by rw [List.getElem?_map, hp]; rfl
  exact ⟨g, c, rfl, hg, Sl.cell h hm (k := 0) (by omega), Sl.cell h hm (k := 1) (by omega)⟩
def lastC (l : List In) (t : Nat) : Nat := if (secL l)[t - 1]? = some true then t - 2 else t - 1
def endB (l : List In) (p : Pt2) : Bool := match l[lastC l p.2.toNat]? with
  | some x => x.op == 149 || x.op == 5
  | none => false
def endedC (l : List In) (P : List Pt2) : Int := if 64 < P.length then 17 else if P.all (endB l) = true then 0 else 16
theorem all_take {α : Type} {q : α → Bool} {P : List α} {i : Nat} {p : α} (hp : P[i]? = some p) (h : (P.take i).all q = true) (hq : q p = true) : (P.take (i + 1)).all q = true := by
  rw [List.take_add_one, hp, Option.toList_some, List.all_append, h]
  simp [hq]
theorem all_not {α : Type} {q : α → Bool} {P : List α} {i : Nat} {p : α} (hp : P[i]? = some p) (hq : q p = false) : P.all q = false := by
  rw [List.all_eq_false]
  exact ⟨p, List.mem_of_getElem? hp, by simp [hq]⟩
set_option maxHeartbeats 4000000 in
set_option maxRecDepth 100000 in
theorem ended_any (l : List In) (a : Option Addr) (c : Nat) (P : List Pt2) (pv sv : Value) (w : World) (h : Ins w (.slice a l.length c) l) (hok : InsOk l) (hP : Pts w pv P) (hPo : PtsOk l P) (hPl : P.length ≤ 2000000) (hS : Bls w sv (secL l)) :
    Calls Tryz.prog 49 #[.slice a l.length c, pv, sv] w fun e w' => (∃ p : Int, e = .returned (.tuple #[.int .i64 p, .int .i64 (endedC l P)])) ∧ Kept (fun _ => False) w w' := by
  have hlen := hok.len
  obtain ⟨r, hr⟩ : ∃ r, endedC l P = r := ⟨_, rfl⟩
  rw [hr]
  unfold endedC at hr
  obtain ⟨pA, pc, hpv⟩ := Sl.any hP
  rw [List.length_map] at hpv
  subst hpv
  by_cases h64 : 64 < P.length
  · rw [if_pos h64] at hr
    subst hr
    go_enter Tryz.func49, Tryz.ntmps49
    go_wp2_with fail
    go_ret2
    exact ⟨⟨_, rfl⟩, Kept.refl _ w⟩
  rw [if_neg h64] at hr
  have HR := Lib.hid hr
  clear hr
  go_enter Tryz.func49, Tryz.ntmps49
  go_wp2_with fail
  go_loopw [17] (fun iv wr => ∃ i : Nat, iv = .int .i64 i ∧ i ≤ P.length ∧ (P.take i).all (endB l) = true ∧ Kept (fun _ => False) w wr) (fun iv _ => P.length - (intOf iv).toNat)
  case atStart => exact ⟨0, rfl, by omega, rfl, Kept.refl _ _⟩
  case round =>
    obtain ⟨i, rfl, hi, hall, hK⟩ := hrel
    by_cases hlt : i < P.length
    case neg =>
      obtain rfl : i = P.length := by omega
      rw [List.take_length] at hall
      have hr := HR.out
      rw [if_pos hall] at hr
      subst hr
      clear hall HR
      go_wp2_with fail
      go_ret2
      exact ⟨⟨_, rfl⟩, hK⟩
    case pos =>
      obtain ⟨p, hp⟩ : ∃ p, P[i]? = some p := ⟨_, List.getElem?_eq_getElem hlt⟩
      obtain ⟨f, t, rfl, hft, htl⟩ := hPo.nat hp
      obtain ⟨pg, pc', hpv, hpg, p0, p1⟩ := Pts.at_ (Sl.kept hK hP (fun _ _ h => h)) hp
      obtain ⟨rfl, -, rfl⟩ := Value.slice.inj hpv
      obtain ⟨m, rfl⟩ : ∃ m, t = m + 1 := ⟨t - 1, by omega⟩
      have hS2 := Sl.kept hK hS (fun _ _ h => h)
      obtain ⟨b, hb⟩ : ∃ b, (secL l)[m]? = some b := ⟨_, List.getElem?_eq_getElem (by rw [sec_len]; omega)⟩
      obtain ⟨g, sc, hsv, hg, d0⟩ := Bls.at_ hS2 hb
      rw [sec_len] at hsv
      subst hsv
      have hE : endB l ((f : Int), ((m + 1 : Nat) : Int)) = match l[if b = true then m - 1 else m]? with
          | some x => x.op == 149 || x.op == 5
          | none => false := by
        unfold endB lastC
        simp only [Int.toNat_natCast, Nat.add_sub_cancel, hb]
        cases b <;> simp [show m + 1 - 2 = m - 1 by omega]
      have hIn := h.kept hK
      cases b with
      | false =>
        obtain ⟨x, hx⟩ : ∃ x, l[m]? = some x := ⟨_, List.getElem?_eq_getElem (by omega)⟩
        obtain ⟨lg, lo, rfl, hlg, c0, c1, c2, c3, c4⟩ := hIn.at_ hx
        simp only [Bool.false_eq_true, if_false, hx] at hE
        have hpc : ((m + 1 : Nat) : Int) = (m : Int) + 1 := by omega
        have HA1 := Lib.hid (fun hq => all_take (q := endB l) hp hall hq)
        have HA2 := Lib.hid (fun hq => all_not (q := endB l) hp hq)
        rw [hpc] at p1
        have HE := Lib.hid hE
        have hml : m < l.length := by omega
        clear hx hE hpc hb hp hall hS2 hS hP hPo h hIn hok hpv c1 c2 c3 c4
        cases q1 : (x.op == 149) <;> cases q2 : (x.op == 5)
        case false.false =>
          have hr := HR.out
          rw [HA2.out (by rw [HE.out, q1, q2]; rfl)] at hr
          simp only [Bool.false_eq_true, if_false] at hr
          subst hr
          have q1' : (x.op != 149) = true := by simpa using q1
          have q2' : (x.op != 5) = true := by simpa using q2
          clear HR HA1 HA2 HE q1 q2
          go_wp2_with fail
          go_ret2
          exact ⟨⟨_, rfl⟩, hK.alloc _⟩
        all_goals
          have HA := Lib.hid (HA1.out (by rw [HE.out, q1, q2]; rfl))
          have q1' : (x.op != 149) = !(x.op == 149) := rfl
          have q2' : (x.op != 5) = !(x.op == 5) := rfl
          rw [q1] at q1'
          rw [q2] at q2'
          simp only [Bool.not_true, Bool.not_false] at q1' q2'
          clear HR HA1 HA2 HE q1 q2
          go_wp2_with fail
          go_roundw
          case rel => exact ⟨i + 1, by go_num, by omega, HA.out, hK.alloc _⟩
          case measure => simp [intOf]; omega
      | true =>
        obtain ⟨k, rfl⟩ : ∃ k, m = k + 1 := ⟨m - 1, by
          rcases Nat.eq_zero_or_pos m with rfl | h
          · rw [sec_zero (by omega)] at hb; cases hb
          · omega⟩
        obtain ⟨x, hx⟩ : ∃ x, l[k]? = some x := ⟨_, List.getElem?_eq_getElem (by omega)⟩
        obtain ⟨lg, lo, rfl, hlg, c0, c1, c2, c3, c4⟩ := hIn.at_ hx
        simp only [if_true, Nat.add_sub_cancel, hx] at hE
        have hpc : ((k + 1 + 1 : Nat) : Int) = (k : Int) + 1 + 1 := by omega
        have HA1 := Lib.hid (fun hq => all_take (q := endB l) hp hall hq)
        have HA2 := Lib.hid (fun hq => all_not (q := endB l) hp hq)
        rw [hpc] at p1
        have HE := Lib.hid hE
        have hml : k + 1 < l.length := by omega
        clear hx hE hpc hb hp hall hS2 hS hP hPo h hIn hok hpv c1 c2 c3 c4
        cases q1 : (x.op == 149) <;> cases q2 : (x.op == 5)
        case false.false =>
          have hr := HR.out
          rw [HA2.out (by rw [HE.out, q1, q2]; rfl)] at hr
          simp only [Bool.false_eq_true, if_false] at hr
          subst hr
          have q1' : (x.op != 149) = true := by simpa using q1
          have q2' : (x.op != 5) = true := by simpa using q2
          clear HR HA1 HA2 HE q1 q2
          go_wp2_with fail
          go_ret2
          exact ⟨⟨_, rfl⟩, hK.alloc _⟩
        all_goals
          have HA := Lib.hid (HA1.out (by rw [HE.out, q1, q2]; rfl))
          have q1' : (x.op != 149) = !(x.op == 149) := rfl
          have q2' : (x.op != 5) = !(x.op == 5) := rfl
          rw [q1] at q1'
          rw [q2] at q2'
          simp only [Bool.not_true, Bool.not_false] at q1' q2'
          clear HR HA1 HA2 HE q1 q2
          go_wp2_with fail
          go_roundw
          case rel => exact ⟨i + 1, by go_num, by omega, HA.out, hK.alloc _⟩
          case measure => simp [intOf]; omega

end Go.Proofs.YtdchmelgaljpfaaGreat
