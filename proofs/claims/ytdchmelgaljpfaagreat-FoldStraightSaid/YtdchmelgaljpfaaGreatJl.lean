import Derived.Test.YtdchmelgaljpfaaGreatJk
set_option linter.unusedSimpArgs false
set_option linter.unusedVariables false
namespace Go.Proofs.YtdchmelgaljpfaaGreat
open Go.RowKit

/-! ### leads -/
def goC (l : List In) (f t : Nat) (n : Int) : Bool := decide (n < f) || (decide ((t : Int) ≤ n) || ((secL l)[n.toNat]? == some true))
def jbadB (l : List In) (f t i : Nat) : Bool := match l[i]?, (secL l)[i]? with
  | some x, some false => isJumpB x && goC l f t ((i : Int) + 1 + x.off)
  | _, _ => false
def leadB (l : List In) (p : Pt2) : Bool := (List.range (p.2.toNat - p.1.toNat)).all fun k => !jbadB l p.1.toNat p.2.toNat (p.1.toNat + k)
def leadsB (l : List In) (P : List Pt2) : Bool := P.all (leadB l)
theorem range_take (n k : Nat) (h : k < n) : (List.range n)[k]? = some k := by simp [h]
set_option maxHeartbeats 8000000 in
set_option maxRecDepth 100000 in
theorem leads_any (l : List In) (a : Option Addr) (c : Nat) (P : List Pt2) (pv sv : Value) (w : World) (h : Ins w (.slice a l.length c) l) (hok : InsOk l) (hP : Pts w pv P) (hPo : PtsOk l P) (hPl : P.length ≤ 2000000) (hS : Bls w sv (secL l)) :
    Calls Tryz.prog 50 #[.slice a l.length c, pv, sv] w fun e w' => (∃ p : Int, e = .returned (.tuple #[.int .i64 p, .bool (leadsB l P)])) ∧ Kept (fun _ => False) w w' := by
  have hlen := hok.len
  obtain ⟨r, hr⟩ : ∃ r, leadsB l P = r := ⟨_, rfl⟩
  rw [hr]
  unfold leadsB at hr
  have HR := Lib.hid hr
  have HJ := Lib.hid (fun i x W hx hI => jumps_any l a c i x W hI hok hx)
  have HIN := Lib.hid (fun (W : World) (hk : Kept (fun _ => False) w W) => h.kept hk)
  have HS := Lib.hid (fun (W : World) (hk : Kept (fun _ => False) w W) => (Sl.kept hk hS (fun _ _ h => h) : Bls W sv (secL l)))
  obtain ⟨pA, pc, hpv⟩ := Sl.any hP
  rw [List.length_map] at hpv
  subst hpv
  clear hr hok h hS
  go_enter Tryz.func50, Tryz.ntmps50
  go_wp2_with fail
  go_loopw [15] (fun iv wr => ∃ i : Nat, iv = .int .i64 i ∧ i ≤ P.length ∧ (P.take i).all (leadB l) = true ∧ Kept (fun _ => False) w wr) (fun iv _ => P.length - (intOf iv).toNat)
  case atStart => exact ⟨0, rfl, by omega, rfl, Kept.refl _ _⟩
  case round =>
    obtain ⟨i, rfl, hi, hall, hK⟩ := hrel
    by_cases hlt : i < P.length
    case neg =>
      obtain rfl : i = P.length := by omega
      rw [List.take_length] at hall
      have hr := HR.out
      rw [hall] at hr
      subst hr
      clear hall HR
      go_wp2_with fail
      go_ret2
      exact ⟨⟨_, rfl⟩, hK⟩
    case pos =>
      obtain ⟨p, hp⟩ : ∃ p, P[i]? = some p := ⟨_, List.getElem?_eq_getElem hlt⟩
      obtain ⟨f, t, rfl, hft, htl⟩ := hPo.nat hp
      obtain ⟨pg, pc', hpv, hpg, p0, p1⟩ := Pts.at_ (Sl.kept hK hP (fun _ _ h => h)) hp
      obtain ⟨rfl, -, rfl⟩ := Value.slice.inj hpv
      have hlB : leadB l ((f : Int), (t : Int)) = (List.range (t - f)).all fun k => !jbadB l f t (f + k) := rfl
      have HA1 := Lib.hid (fun hq => all_take (q := leadB l) hp hall hq)
      have HA2 := Lib.hid (fun hq => all_not (q := leadB l) hp hq)
      have HLB := Lib.hid hlB
      have hBn := Blk.new wr 97 #[.int .i64 f, .int .i64 t]
      have hKn : Kept (fun _ => False) wr (wr.alloc (.cells #[.int .i64 f, .int .i64 t] 97)) := (Kept.refl _ wr).alloc _
      obtain ⟨W1, rfl⟩ : ∃ W1 : World, W1 = wr := ⟨_, rfl⟩
      clear hlB hp hall hpv
      go_wp2_with fail
      generalize W1.alloc (.cells #[.int .i64 f, .int .i64 t] 97) = wn at *
      go_loopw [10] (fun jv wr => ∃ j : Nat, jv = .int .i64 j ∧ f ≤ j ∧ j ≤ t ∧ ((List.range (j - f)).all fun k => !jbadB l f t (f + k)) = true ∧ Kept (fun _ => False) wn wr) (fun jv _ => t - (intOf jv).toNat)
      case atStart => exact ⟨f, rfl, by omega, by omega, by simp, Kept.refl _ _⟩
      case round =>
        obtain ⟨j, rfl, hj1, hj2, hal, hk2⟩ := hrel
        have hb2 := hk2.blk (fun h => h) hBn
        have x0 := hb2.cell 0
        have x1 := hb2.cell 1
        have hK2 := (hK.trans hKn (fun _ _ h => h)).trans hk2 (fun _ _ h => h)
        by_cases hjt : j < t
        case neg =>
          obtain rfl : j = t := by omega
          have HA := Lib.hid (HA1.out (by rw [HLB.out]; exact hal))
          clear HA1 HA2 HLB hal HR
          go_wp2_with fail
          go_roundw
          case rel => exact ⟨i + 1, by go_num, by omega, HA.out, hK2⟩
          case measure => simp [intOf]; omega
        case pos =>
          obtain ⟨x, hx⟩ : ∃ x, l[j]? = some x := ⟨_, List.getElem?_eq_getElem (by omega)⟩
          obtain ⟨b, hb⟩ : ∃ b, (secL l)[j]? = some b := ⟨_, List.getElem?_eq_getElem (by rw [sec_len]; omega)⟩
          have HC := Lib.hid (HJ.out j x _ hx (HIN.out _ hK2))
          obtain ⟨g, sc, hsv, hg, d0⟩ := Bls.at_ (HS.out _ hK2) hb
          rw [sec_len] at hsv
          subst hsv
          have hjb : jbadB l f t j = (isJumpB x && (!b && goC l f t ((j : Int) + 1 + x.off))) := by
            unfold jbadB
            rw [hx, hb]
            cases b <;> simp
          have hnext : jbadB l f t j = false → ((List.range (j + 1 - f)).all fun k => !jbadB l f t (f + k)) = true := fun hq => by
            rw [show j + 1 - f = j - f + 1 by omega, List.range_succ, List.all_append, hal]
            simp [show f + (j - f) = j by omega, hq]
          have hstop : jbadB l f t j = true → leadB l ((f : Int), (t : Int)) = false := fun hq => by
            rw [HLB.out, List.all_eq_false]
            exact ⟨j - f, by simp; omega, by simp [show f + (j - f) = j by omega, hq]⟩
          have HNX := Lib.hid hnext
          have HST := Lib.hid (fun hq => HA2.out (hstop hq))
          have HJB := Lib.hid hjb
          clear hx hb hjb hnext hstop hal HA1 HA2 HLB
          generalize isJumpB x = ij at *
          generalize ht : (j : Int) + 1 + x.off = n at *
          clear ht
          go_wp2_with fail
          refine HC.out.mono ?_
          rintro e w3 ⟨rfl, hk3⟩
          have hK3 := hK2.trans hk3 (fun _ _ h => h)
          have hk23 := hk2.trans hk3 (fun _ _ h => h)
          have hb3 := hk3.blk (fun h => h) hb2
          have e0 := (hk3.cell (p := ⟨g, j, none⟩) hg (fun h => h)).trans d0
          clear x0 x1 d0 hb2 HC
          have x0 := hb3.cell 0
          have x1 := hb3.cell 1
          clear hb3
          by_cases hgo : ij = true ∧ b = false
          case neg =>
            have HN := Lib.hid (HNX.out (by rw [HJB.out]; cases ij <;> cases b <;> simp_all))
            cases ij <;> cases b
            case true.false => exact absurd ⟨rfl, rfl⟩ hgo
            all_goals
              clear hgo HJB HNX HST
              go_wp2_with fail
              go_roundw
              case rel => exact ⟨j + 1, by go_num, by omega, by omega, HN.out, hk23⟩
              case measure => simp [intOf]; omega
          case pos =>
            obtain ⟨rfl, rfl⟩ := hgo
            have hjb := HJB.out
            simp only [Bool.true_and, Bool.not_false] at hjb
            unfold goC at hjb
            have stop : jbadB l f t j = true → r = false := fun hq => by rw [← HR.out]; exact HST.out hq
            cases q1 : decide (n < f) with
            | true =>
              have hrf : r = false := stop (by rw [hjb, q1]; rfl)
              subst hrf
              clear stop hjb HJB HNX HST HR
              go_wp2_with fail
              go_ret2
              exact ⟨⟨_, rfl⟩, hK3⟩
            | false =>
              cases q2 : decide ((t : Int) ≤ n) with
              | true =>
                have hrf : r = false := stop (by rw [hjb, q1, q2]; rfl)
                subst hrf
                clear stop hjb HJB HNX HST HR
                go_wp2_with fail
                go_ret2
                exact ⟨⟨_, rfl⟩, hK3⟩
              | false =>
                have q1p := of_decide_eq_false q1
                have q2p := of_decide_eq_false q2
                obtain ⟨m, rfl⟩ : ∃ m : Nat, n = m := ⟨n.toNat, by omega⟩
                obtain ⟨bb, hbb⟩ : ∃ bb, (secL l)[m]? = some bb := ⟨_, List.getElem?_eq_getElem (by rw [sec_len]; omega)⟩
                obtain ⟨g', sc', hsv', hg', d1⟩ := Bls.at_ (HS.out _ hK3) hbb
                rw [sec_len] at hsv'
                cases hsv'
                rw [q1, q2, Int.toNat_natCast, hbb] at hjb
                have hml : m < l.length := by omega
                have q1n : decide (m < f) = false := decide_eq_false (by omega)
                have q2n : decide (t ≤ m) = false := decide_eq_false (by omega)
                clear hbb q1p q2p
                cases bb
                · have HN := Lib.hid (HNX.out (by rw [hjb]; rfl))
                  clear stop hjb HJB HNX HST HR
                  go_wp2_with fail
                  go_roundw
                  case rel => exact ⟨j + 1, by go_num, by omega, by omega, HN.out, hk23⟩
                  case measure => simp [intOf]; omega
                · have hrf : r = false := stop (by rw [hjb]; rfl)
                  subst hrf
                  clear stop hjb HJB HNX HST HR
                  go_wp2_with fail
                  go_ret2
                  exact ⟨⟨_, rfl⟩, hK3⟩

end Go.Proofs.YtdchmelgaljpfaaGreat
