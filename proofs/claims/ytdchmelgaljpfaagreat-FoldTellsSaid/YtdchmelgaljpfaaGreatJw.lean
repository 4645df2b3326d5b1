import Derived.Test.YtdchmelgaljpfaaGreatJv
set_option linter.unusedSimpArgs false
set_option linter.unusedVariables false
namespace Go.Proofs.YtdchmelgaljpfaaGreat
open Go.RowKit

/-! ### Subs -/
def subsC (l : List In) : Int := if slotsC l = 0 then endedC l (partsL l) else slotsC l
set_option maxHeartbeats 4000000 in
set_option maxRecDepth 100000 in
theorem subs_any (l : List In) (a : Option Addr) (c : Nat) (w : World) (h : Ins w (.slice a l.length c) l) (hok : InsOk l) :
    Calls Tryz.prog 20 #[.slice a l.length c] w fun e w' => ∃ (pv : Value) (p : Int), e = .returned (.tuple #[pv, .int .i64 p, .int .i64 (subsC l)]) ∧ (subsC l = 0 → Pts w' pv (partsL l)) ∧ Kept (fun _ => False) w w' ∧ ∀ g, pv.ownBlock = some g → w.heap.size ≤ g := by
  have hlen := hok.len
  have HSE := Lib.hid (fun W hI => seconds_any l a c W hI hok)
  have HON := Lib.hid (fun i x sv W hI hx hS => one_any l a c i x sv W hI hok hx hS)
  have HIN := Lib.hid (fun (W : World) (hk : Kept (fun _ => False) w W) => h.kept hk)
  have HST := Lib.hid (fun hz W hI => starts_any l a c W hI hok hz)
  have HIS := Lib.hid (fun i x k W hx => ris_any x k W (hok.at_ (i := i) hx))
  obtain ⟨i0, hI0, hI1, hI2, hI3⟩ := info_parts infoP
  obtain ⟨r, hr⟩ : ∃ r, subsC l = r := ⟨_, rfl⟩
  rw [hr]
  unfold subsC at hr
  by_cases h10 : l.length < 1 ∨ 4096 < l.length
  · have hs : slotsC l = 10 := by unfold slotsC; rw [if_pos h10]
    rw [hs, if_neg (by decide)] at hr
    subst hr
    clear hs HSE HON HIN HST HIS h hok
    by_cases h0 : l.length < 1
    · have h0d : ((l.length : Int) == 0) = true := beq_iff_eq.2 (by omega)
      clear h10 h0
      go_enter Tryz.func20, Tryz.ntmps20
      go_wp2_with fail
      go_ret3
      exact ⟨_, _, rfl, fun h => absurd h (by decide), Kept.refl _ w, fun g hg => by simp [Value.ownBlock] at hg⟩
    · have h0d : ((l.length : Int) == 0) = false := beq_eq_false_iff_ne.2 (by omega)
      have h1d : decide ((4096 : Int) < l.length) = true := decide_eq_true (by omega)
      clear h10 h0
      go_enter Tryz.func20, Tryz.ntmps20
      go_wp2_with fail
      go_ret3
      exact ⟨_, _, rfl, fun h => absurd h (by decide), Kept.refl _ w, fun g hg => by simp [Value.ownBlock] at hg⟩
  have h0d : ((l.length : Int) == 0) = false := beq_eq_false_iff_ne.2 (by omega)
  have h1d : decide ((4096 : Int) < l.length) = false := decide_eq_false (by omega)
  have hsl : slotsC l = scanC l 0 l.length := by unfold slotsC; rw [if_neg h10]
  have HSL := Lib.hid hsl
  have HR := Lib.hid hr
  clear hsl hr h
  go_enter Tryz.func20, Tryz.ntmps20
  go_wp2_with fail
  refine (HSE.out _ (HIN.out _ (Kept.refl _ w))).mono ?_
  rintro e w1 ⟨sv, rfl, hS, hk1, hsv⟩
  obtain ⟨sg, sc, rfl, hsl, hsg⟩ := Sl.some_ hS (by rw [List.length_map, sec_len]; omega)
  rw [List.length_map, sec_len] at *
  have HS := Lib.hid (fun (W : World) (hk : Kept (fun _ => False) w1 W) => (Sl.kept hk hS (fun _ _ h => h) : Bls W _ (secL l)))
  clear hS hsv h0d h1d HSE
  go_wp2_with fail
  go_loopw [6] (fun iv wr => ∃ i n : Nat, iv = .int .i64 i ∧ i + n = l.length ∧ scanC l i n = slotsC l ∧ Kept (fun _ => False) w1 wr) (fun iv _ => l.length - (intOf iv).toNat)
  case atStart => exact ⟨0, l.length, rfl, by omega, HSL.out.symm, Kept.refl _ _⟩
  case round =>
    obtain ⟨i, n, rfl, hin, hsc, hk2⟩ := hrel
    have hK2 := hk1.trans hk2 (fun _ _ h => h)
    cases n with
    | succ n =>
      have hlt : i < l.length := by omega
      obtain ⟨x, hx⟩ : ∃ x, l[i]? = some x := ⟨_, List.getElem?_eq_getElem hlt⟩
      obtain ⟨b, hb⟩ : ∃ b, (secL l)[i]? = some b := ⟨_, List.getElem?_eq_getElem (by rw [sec_len]; omega)⟩
      have d0 := Bls.cell (HS.out _ hk2) hb
      have hsg2 := Nat.lt_of_lt_of_le hsg hk2.size
      have hsc' : (if slotC l i = 0 then scanC l (i + 1) n else slotC l i) = slotsC l := hsc
      have hst : slotC l i = if b = true then 0 else wrongC l i x := by
        unfold slotC
        rw [hx, hb]
        cases b <;> rfl
      have hone := one_eq hlt (hok.at_ hx)
      rw [hst] at hsc'
      have HO := Lib.hid (HON.out i x (.slice (some ⟨sg, 0, none⟩) l.length sc) _ (HIN.out _ hK2) hx (HS.out _ hk2))
      rw [hone] at HO
      clear hx hb hst hone hsc HON HST HIS hok
      cases b
      case true =>
        have HSC := Lib.hid hsc'
        clear hsc'
        go_wp2_with fail
        go_roundw
        case rel => exact ⟨i + 1, n, by go_num, by omega, by simpa using HSC.out, hk2⟩
        case measure => simp [intOf]; omega
      case false =>
        generalize wrongC l i x = e1 at *
        by_cases he : e1 = 0
        · simp only [Bool.false_eq_true, if_false] at hsc'
          rw [if_pos he] at hsc'
          have HSC := Lib.hid hsc'
          subst he
          clear hsc'
          go_wp2_with fail
          refine HO.out.mono ?_
          rintro e w3 ⟨rfl, hk3⟩
          have hk23 := hk2.trans hk3 (fun _ _ h => h)
          go_wp2_with fail
          go_roundw
          case rel => exact ⟨i + 1, n, by go_num, by omega, HSC.out, hk23⟩
          case measure => simp [intOf]; omega
        · simp only [Bool.false_eq_true, if_false] at hsc'
          rw [if_neg he] at hsc'
          have hr := HR.out
          rw [← hsc', if_neg he] at hr
          have hed : (e1 != 0) = true := by simpa using he
          subst hr
          have HNE := Lib.hid he
          clear HR HSL hsc' he
          go_wp2_with fail
          refine HO.out.mono ?_
          rintro e w3 ⟨rfl, hk3⟩
          have hK3 := hK2.trans hk3 (fun _ _ h => h)
          go_wp2_with fail
          go_ret3
          exact ⟨_, _, rfl, fun h => absurd h HNE.out, hK3, fun g hg => by simp [Value.ownBlock] at hg⟩
    | zero =>
      obtain rfl : i = l.length := by omega
      have hz : slotsC l = 0 := hsc.symm
      have hr := HR.out
      rw [if_pos hz] at hr
      have HR2 := Lib.hid hr
      have hpo := parts_ok hz
      have hpl := parts_len l
      have hbl := begins_len l
      have hPp : partsOf (beginsL l) l.length = partsL l := rfl
      have HS1 := Lib.hid (HST.out hz)
      have HKN := Lib.hid (fun i x (hx : l[i]? = some x) hs => (⟨isR9 (hok.at_ hx) (known_of hz hx hs), isR0 (hok.at_ hx) (known_of hz hx hs)⟩ : isR x 9 = (x.op == 149) ∧ isR x 0 = (x.op == 5)))
      have hnd : decide ((l.length : Int) < l.length) = false := decide_eq_false (by omega)
      clear hr HR HST HSL hsc HON hin hok
      go_wp2_with fail
      refine (HS1.out _ (HIN.out _ hK2)).mono ?_
      rintro e w3 ⟨bv, rfl, hB, hk3, hbo⟩
      have hK3 := hK2.trans hk3 (fun _ _ h => h)
      have hk23 := hk2.trans hk3 (fun _ _ h => h)
      clear hnd HS1 hz
      generalize beginsL l = B at *
      obtain ⟨bA, bc, hbv⟩ := Sl.any hB
      rw [List.length_map] at hbv
      subst hbv
      have HB := Lib.hid (fun (W : World) (hk : Kept (fun _ => False) w3 W) => (Sl.kept hk hB (fun _ _ h => h) : Ints W _ B))
      have HS3 := Lib.hid (fun (W : World) (hk : Kept (fun _ => False) w3 W) => HS.out W (hk23.trans hk (fun _ _ h => h)))
      have HI3 := Lib.hid (fun (W : World) (hk : Kept (fun _ => False) w3 W) => HIN.out W (hK3.trans hk (fun _ _ h => h)))
      clear HS HIN hB hk2 hk23 hK2 hk3
      by_cases h64 : 64 < B.length
      · have hr := HR2.out
        unfold endedC at hr
        rw [if_pos (by rw [hpl]; exact h64)] at hr
        subst hr
        have h64d : decide ((64 : Int) < B.length) = true := decide_eq_true (by omega)
        clear HR2 h64 hpl
        go_wp2_with fail
        go_ret3
        exact ⟨_, _, rfl, fun h => absurd h (by decide), hK3, fun g hg => by simp [Value.ownBlock] at hg⟩
      have hr := HR2.out
      unfold endedC at hr
      rw [if_neg (by rw [hpl]; exact h64)] at hr
      have h64d : decide ((64 : Int) < B.length) = false := decide_eq_false (by omega)
      have HR3 := Lib.hid hr
      have HPP := Lib.hid hPp
      clear hr HR2 hPp
      have HPO := Lib.hid hpo
      clear hpo
      go_wp2_with fail
      clear h64d
      go_loopw [9, 10] (fun ov iv wr => ∃ i : Nat, iv = .int .i64 i ∧ i ≤ B.length ∧ Pts wr ov ((List.range i).map (partAt B l.length)) ∧ ((partsL l).take i).all (endB l) = true ∧ Kept (fun _ => False) w3 wr ∧ ∀ g, ov.ownBlock = some g → w3.heap.size ≤ g) (fun _ iv _ => B.length - (intOf iv).toNat)
      case atStart => exact ⟨0, rfl, by omega, Sl.nil _ _ _, rfl, Kept.refl _ _, fun g hg => by simp [Value.ownBlock] at hg⟩
      case round =>
        obtain ⟨i, rfl, hi, hP, hall, hk4, hown⟩ := hrel
        have hK4 := hK3.trans hk4 (fun _ _ h => h)
        by_cases hlt : i < B.length
        case neg =>
          obtain rfl : i = B.length := by omega
          have hr := HR3.out
          rw [← hpl, List.take_length] at hall
          rw [if_pos hall] at hr
          subst hr
          have hP2 : Pts wr u9 (partsL l) := by rw [← HPP.out]; exact hP
          have hnd : decide ((B.length : Int) < B.length) = false := decide_eq_false (by omega)
          clear hall HR3 HPP HPO hlt hi
          go_wp2_with fail
          go_ret3
          exact ⟨_, ⟨_, rfl⟩, hP2, hK4, fun g hg => Nat.le_trans hK3.size (hown g hg)⟩
        case pos =>
        have hp : (partsL l)[i]? = some (partAt B l.length i) := by
          rw [← HPP.out]
          unfold partsOf
          rw [List.getElem?_map, range_take _ _ hlt]
          rfl
        obtain ⟨f, t, hft, hlt2, htl⟩ := HPO.out.nat hp
        rw [hft] at hp
        have hnx : (List.range (i + 1)).map (partAt B l.length) = (List.range i).map (partAt B l.length) ++ [((f : Int), (t : Int))] := by rw [List.range_succ, List.map_append, ← hft]; rfl
        have hml : ((List.range i).map (partAt B l.length)).length = i := by simp
        obtain ⟨m, rfl⟩ : ∃ m, t = m + 1 := ⟨t - 1, by omega⟩
        obtain ⟨b, hb⟩ : ∃ b, (secL l)[m]? = some b := ⟨_, List.getElem?_eq_getElem (by rw [sec_len]; omega)⟩
        obtain ⟨k, hk, hkm, hks, hkv⟩ : ∃ k : Nat, k < l.length ∧ lastC l (m + 1) = k ∧ (secL l)[k]? = some false ∧ (k : Int) = if b = true then (m : Int) - 1 else m := by
          cases b
          · exact ⟨m, by omega, by unfold lastC; rw [Nat.add_sub_cancel, hb]; rfl, hb, by simp⟩
          · obtain ⟨k, rfl⟩ : ∃ k, m = k + 1 := ⟨m - 1, by
              rcases Nat.eq_zero_or_pos m with rfl | h
              · rw [sec_zero (by omega)] at hb; cases hb
              · omega⟩
            refine ⟨k, by omega, by unfold lastC; rw [show k + 1 + 1 - 1 = k + 1 by omega, hb]; simp, ?_, by simp⟩
            obtain ⟨x, hx⟩ : ∃ x, l[k]? = some x := ⟨_, List.getElem?_eq_getElem (by omega)⟩
            obtain ⟨b2, hb2⟩ : ∃ b2, (secL l)[k]? = some b2 := ⟨_, List.getElem?_eq_getElem (by rw [sec_len]; omega)⟩
            have := sec_succ hx hb2 (by omega)
            rw [hb] at this
            cases b2
            · exact hb2
            · simp at this
        obtain ⟨x, hx⟩ : ∃ x, l[k]? = some x := ⟨_, List.getElem?_eq_getElem hk⟩
        have hE : endB l ((f : Int), ((m + 1 : Nat) : Int)) = (x.op == 149 || x.op == 5) := by
          unfold endB
          simp only [Int.toNat_natCast, hkm, hx]
        obtain ⟨hn9, hn0⟩ := HKN.out k x hx hks
        have HA1 := Lib.hid (fun hq => all_take (q := endB l) hp hall hq)
        have HA2 := Lib.hid (fun hq => all_not (q := endB l) hp hq)
        have HE := Lib.hid hE
        have H9 := Lib.hid (fun W => HIS.out k x 9 W hx)
        have H0 := Lib.hid (fun W => HIS.out k x 0 W hx)
        rw [hn9] at H9
        rw [hn0] at H0
        have HX := Lib.hid (fun W hk => (HI3.out W hk).at_ hx)
        have HBK := Lib.hid (fun W hk => Bls.at_ (HS3.out W hk) hb)
        have hfd : B.getD i 0 = (f : Int) := congrArg Prod.fst hft
        have HBI := Lib.hid (fun W hk => Ints.at_ (HB.out W hk) hlt)
        rw [hfd] at HBI
        have HNX := Lib.hid hnx
        have HML := Lib.hid hml
        have HOWN := Lib.hid hown
        have HKV := Lib.hid hkv
        have hsnd : (if i + 1 < B.length then B.getD (i + 1) 0 else (l.length : Int)) = ((m + 1 : Nat) : Int) := congrArg Prod.snd hft
        obtain ⟨bg, bc', hbv, hbg, p0⟩ := HBI.out _ hk4
        obtain ⟨rfl, -, rfl⟩ := Value.slice.inj hbv
        obtain ⟨g, sc', hsv, hg, d0⟩ := HBK.out _ hk4
        rw [sec_len] at hsv
        obtain ⟨hsv, -, rfl⟩ := Value.slice.inj hsv
        cases hsv
        obtain ⟨lg, lo, rfl, hlg, c0, c1, c2, c3, c4⟩ := HX.out _ hk4
        clear hp hb hkm hks hx hE hn9 hn0 hft hnx hml hown hkv hfd hbv hall HPO HPP HKN HIS HI3 HS3
        have hIt : (i + 1 < B.length ∧ wr.cell? ⟨bg, i + 1, none⟩ = some (.int .i64 ((m : Int) + 1))) ∨ (¬ i + 1 < B.length ∧ (l.length : Int) = (m : Int) + 1) := by
          by_cases hl1 : i + 1 < B.length
          · rw [if_pos hl1] at hsnd
            obtain ⟨g', bc', hv', hg', d1⟩ := Ints.at_ (HB.out _ hk4) hl1
            cases hv'
            rw [hsnd] at d1
            exact .inl ⟨hl1, d1⟩
          · rw [if_neg hl1] at hsnd
            exact .inr ⟨hl1, by omega⟩
        clear hsnd
        rcases hIt with ⟨hl1, d1⟩ | ⟨hl1, d1⟩
        case inl =>
          cases b
          case false =>
            have hkv := HKV.out
            simp only [Bool.false_eq_true, if_false, if_true] at hkv
            clear HKV
            obtain rfl : m = k := by omega
            clear hkv
            go_upto_region 24 with fail
            cases q1 : (x.op == 149) <;> cases q2 : (x.op == 5)
            case true.true =>
              exfalso
              simp only [beq_iff_eq] at q1 q2
              omega
            case false.false =>
              have hr := HR3.out
              rw [HA2.out (by rw [HE.out, q1, q2]; rfl)] at hr
              simp only [Bool.false_eq_true, if_false] at hr
              subst hr
              rw [q1] at H9
              rw [q2] at H0
              clear HR3 HA1 HA2 HE q1 q2
              go_wp2_with fail
              refine (H9.out _).mono ?_
              rintro e w4 ⟨rfl, hk5⟩
              have hk45 := hk4.trans hk5 (fun _ _ h => h)
              obtain ⟨lg', lo', hlgg, hlg', e0, e1, e2, e3, e4⟩ := HX.out _ hk45
              cases hlgg
              clear c0 c1 c2 c3 c4
              go_wp2_with fail
              refine (H0.out _).mono ?_
              rintro e w5 ⟨rfl, hk6⟩
              have hk46 := hk45.trans hk6 (fun _ _ h => h)
              have hK6 := hK3.trans hk46 (fun _ _ h => h)
              go_wp2_with fail
              go_ret3
              exact ⟨_, _, rfl, fun h => absurd h (by decide), hK6, fun g hg => by simp [Value.ownBlock] at hg⟩
            case false.true =>
              have HA := Lib.hid (HA1.out (by rw [HE.out, q1, q2]; rfl))
              rw [q1] at H9
              rw [q2] at H0
              clear HR3 HA1 HA2 HE q1 q2
              go_wp2_with fail
              refine (H9.out _).mono ?_
              rintro e w4 ⟨rfl, hk5⟩
              have hk45 := hk4.trans hk5 (fun _ _ h => h)
              obtain ⟨lg', lo', hlgg, hlg', e0, e1, e2, e3, e4⟩ := HX.out _ hk45
              cases hlgg
              clear c0 c1 c2 c3 c4
              go_wp2_with fail
              refine (H0.out _).mono ?_
              rintro e w5 ⟨rfl, hk6⟩
              have hk46 := hk45.trans hk6 (fun _ _ h => h)
              have hk46D := hk5.trans hk6 (fun _ _ h => h)
              obtain ⟨bg', bc2, hbv, hbg', p9⟩ := HBI.out _ hk46
              cases hbv
              have hP9 := Sl.kept hk46D hP (fun _ _ h => h)
              go_wp2_with (at_builtin; go_loud (refine wpList_push (w := w5) rfl (.tmp 88) (.tmp 95) 93 rfl Tryz.underlying93 hI0 hI1 hI2 hI3 rfl (by omega) u9 (((List.range i).map (partAt B l.length)).map pcell) (pcell (f, (m : Int) + 1)) rfl rfl hP9 rfl (by simp [pcell, Value.oneCell']) (by rw [List.length_map, HML.out]; omega) (by omega) ?_); intro g5 cap5 w9 hS5 hk9 hg5)
              have hK9 := hk46.trans hk9 (fun k hk e => by have := HOWN.out k e; omega)
              have hS6 : Pts w9 (.slice (some ⟨g5, 0, none⟩) (i + 1) cap5) ((List.range (i + 1)).map (partAt B l.length)) := by
                rw [HNX.out]
                unfold Pts
                rw [List.map_append]
                have h5 := hS5
                rw [List.length_map, HML.out] at h5
                rw [show ((m + 1 : Nat) : Int) = (m : Int) + 1 by omega]
                exact h5
              go_roundw
              case rel => exact ⟨i + 1, by go_num, by omega, hS6, HA.out, hK9, fun g hg => by
                have hg2 : g5 = g := Option.some.inj hg
                subst hg2
                exact hg5.elim (HOWN.out _) (fun h => Nat.le_trans hk46.size h)⟩
              case measure => simp [intOf]; omega
            case true.false =>
              have HA := Lib.hid (HA1.out (by rw [HE.out, q1, q2]; rfl))
              rw [q1] at H9
              clear HR3 HA1 HA2 HE q1 q2
              go_wp2_with fail
              refine (H9.out _).mono ?_
              rintro e w4 ⟨rfl, hk5⟩
              have hk45 := hk4.trans hk5 (fun _ _ h => h)
              have hk45D := hk5
              obtain ⟨bg', bc2, hbv, hbg', p9⟩ := HBI.out _ hk45
              cases hbv
              have hP9 := Sl.kept hk45D hP (fun _ _ h => h)
              go_wp2_with (at_builtin; go_loud (refine wpList_push (w := w4) rfl (.tmp 88) (.tmp 95) 93 rfl Tryz.underlying93 hI0 hI1 hI2 hI3 rfl (by omega) u9 (((List.range i).map (partAt B l.length)).map pcell) (pcell (f, (m : Int) + 1)) rfl rfl hP9 rfl (by simp [pcell, Value.oneCell']) (by rw [List.length_map, HML.out]; omega) (by omega) ?_); intro g5 cap5 w9 hS5 hk9 hg5)
              have hK9 := hk45.trans hk9 (fun k hk e => by have := HOWN.out k e; omega)
              have hS6 : Pts w9 (.slice (some ⟨g5, 0, none⟩) (i + 1) cap5) ((List.range (i + 1)).map (partAt B l.length)) := by
                rw [HNX.out]
                unfold Pts
                rw [List.map_append]
                have h5 := hS5
                rw [List.length_map, HML.out] at h5
                rw [show ((m + 1 : Nat) : Int) = (m : Int) + 1 by omega]
                exact h5
              go_roundw
              case rel => exact ⟨i + 1, by go_num, by omega, hS6, HA.out, hK9, fun g hg => by
                have hg2 : g5 = g := Option.some.inj hg
                subst hg2
                exact hg5.elim (HOWN.out _) (fun h => Nat.le_trans hk45.size h)⟩
              case measure => simp [intOf]; omega
          case true =>
            have hkv := HKV.out
            simp only [Bool.false_eq_true, if_false, if_true] at hkv
            clear HKV
            have hkv2 : (m : Int) - 1 = k := hkv.symm
            clear hkv
            go_upto_region 24 with fail
            cases q1 : (x.op == 149) <;> cases q2 : (x.op == 5)
            case true.true =>
              exfalso
              simp only [beq_iff_eq] at q1 q2
              omega
            case false.false =>
              have hr := HR3.out
              rw [HA2.out (by rw [HE.out, q1, q2]; rfl)] at hr
              simp only [Bool.false_eq_true, if_false] at hr
              subst hr
              rw [q1] at H9
              rw [q2] at H0
              clear HR3 HA1 HA2 HE q1 q2
              go_wp2_with fail
              refine (H9.out _).mono ?_
              rintro e w4 ⟨rfl, hk5⟩
              have hk45 := hk4.trans hk5 (fun _ _ h => h)
              obtain ⟨lg', lo', hlgg, hlg', e0, e1, e2, e3, e4⟩ := HX.out _ hk45
              cases hlgg
              clear c0 c1 c2 c3 c4
              go_wp2_with fail
              refine (H0.out _).mono ?_
              rintro e w5 ⟨rfl, hk6⟩
              have hk46 := hk45.trans hk6 (fun _ _ h => h)
              have hK6 := hK3.trans hk46 (fun _ _ h => h)
              go_wp2_with fail
              go_ret3
              exact ⟨_, _, rfl, fun h => absurd h (by decide), hK6, fun g hg => by simp [Value.ownBlock] at hg⟩
            case false.true =>
              have HA := Lib.hid (HA1.out (by rw [HE.out, q1, q2]; rfl))
              rw [q1] at H9
              rw [q2] at H0
              clear HR3 HA1 HA2 HE q1 q2
              go_wp2_with fail
              refine (H9.out _).mono ?_
              rintro e w4 ⟨rfl, hk5⟩
              have hk45 := hk4.trans hk5 (fun _ _ h => h)
              obtain ⟨lg', lo', hlgg, hlg', e0, e1, e2, e3, e4⟩ := HX.out _ hk45
              cases hlgg
              clear c0 c1 c2 c3 c4
              go_wp2_with fail
              refine (H0.out _).mono ?_
              rintro e w5 ⟨rfl, hk6⟩
              have hk46 := hk45.trans hk6 (fun _ _ h => h)
              have hk46D := hk5.trans hk6 (fun _ _ h => h)
              obtain ⟨bg', bc2, hbv, hbg', p9⟩ := HBI.out _ hk46
              cases hbv
              have hP9 := Sl.kept hk46D hP (fun _ _ h => h)
              go_wp2_with (at_builtin; go_loud (refine wpList_push (w := w5) rfl (.tmp 88) (.tmp 95) 93 rfl Tryz.underlying93 hI0 hI1 hI2 hI3 rfl (by omega) u9 (((List.range i).map (partAt B l.length)).map pcell) (pcell (f, (m : Int) + 1)) rfl rfl hP9 rfl (by simp [pcell, Value.oneCell']) (by rw [List.length_map, HML.out]; omega) (by omega) ?_); intro g5 cap5 w9 hS5 hk9 hg5)
              have hK9 := hk46.trans hk9 (fun k hk e => by have := HOWN.out k e; omega)
              have hS6 : Pts w9 (.slice (some ⟨g5, 0, none⟩) (i + 1) cap5) ((List.range (i + 1)).map (partAt B l.length)) := by
                rw [HNX.out]
                unfold Pts
                rw [List.map_append]
                have h5 := hS5
                rw [List.length_map, HML.out] at h5
                rw [show ((m + 1 : Nat) : Int) = (m : Int) + 1 by omega]
                exact h5
              go_roundw
              case rel => exact ⟨i + 1, by go_num, by omega, hS6, HA.out, hK9, fun g hg => by
                have hg2 : g5 = g := Option.some.inj hg
                subst hg2
                exact hg5.elim (HOWN.out _) (fun h => Nat.le_trans hk46.size h)⟩
              case measure => simp [intOf]; omega
            case true.false =>
              have HA := Lib.hid (HA1.out (by rw [HE.out, q1, q2]; rfl))
              rw [q1] at H9
              clear HR3 HA1 HA2 HE q1 q2
              go_wp2_with fail
              refine (H9.out _).mono ?_
              rintro e w4 ⟨rfl, hk5⟩
              have hk45 := hk4.trans hk5 (fun _ _ h => h)
              have hk45D := hk5
              obtain ⟨bg', bc2, hbv, hbg', p9⟩ := HBI.out _ hk45
              cases hbv
              have hP9 := Sl.kept hk45D hP (fun _ _ h => h)
              go_wp2_with (at_builtin; go_loud (refine wpList_push (w := w4) rfl (.tmp 88) (.tmp 95) 93 rfl Tryz.underlying93 hI0 hI1 hI2 hI3 rfl (by omega) u9 (((List.range i).map (partAt B l.length)).map pcell) (pcell (f, (m : Int) + 1)) rfl rfl hP9 rfl (by simp [pcell, Value.oneCell']) (by rw [List.length_map, HML.out]; omega) (by omega) ?_); intro g5 cap5 w9 hS5 hk9 hg5)
              have hK9 := hk45.trans hk9 (fun k hk e => by have := HOWN.out k e; omega)
              have hS6 : Pts w9 (.slice (some ⟨g5, 0, none⟩) (i + 1) cap5) ((List.range (i + 1)).map (partAt B l.length)) := by
                rw [HNX.out]
                unfold Pts
                rw [List.map_append]
                have h5 := hS5
                rw [List.length_map, HML.out] at h5
                rw [show ((m + 1 : Nat) : Int) = (m : Int) + 1 by omega]
                exact h5
              go_roundw
              case rel => exact ⟨i + 1, by go_num, by omega, hS6, HA.out, hK9, fun g hg => by
                have hg2 : g5 = g := Option.some.inj hg
                subst hg2
                exact hg5.elim (HOWN.out _) (fun h => Nat.le_trans hk45.size h)⟩
              case measure => simp [intOf]; omega
        case inr =>
          have d2 : (l.length : Int) - 1 = m := by omega
          have HD1 := Lib.hid d1
          clear d1
          cases b
          case false =>
            have hkv := HKV.out
            simp only [Bool.false_eq_true, if_false, if_true] at hkv
            clear HKV
            obtain rfl : m = k := by omega
            clear hkv
            go_upto_region 24 with fail
            cases q1 : (x.op == 149) <;> cases q2 : (x.op == 5)
            case true.true =>
              exfalso
              simp only [beq_iff_eq] at q1 q2
              omega
            case false.false =>
              have hr := HR3.out
              rw [HA2.out (by rw [HE.out, q1, q2]; rfl)] at hr
              simp only [Bool.false_eq_true, if_false] at hr
              subst hr
              rw [q1] at H9
              rw [q2] at H0
              clear HR3 HA1 HA2 HE q1 q2
              go_wp2_with fail
              refine (H9.out _).mono ?_
              rintro e w4 ⟨rfl, hk5⟩
              have hk45 := hk4.trans hk5 (fun _ _ h => h)
              obtain ⟨lg', lo', hlgg, hlg', e0, e1, e2, e3, e4⟩ := HX.out _ hk45
              cases hlgg
              clear c0 c1 c2 c3 c4
              go_wp2_with fail
              refine (H0.out _).mono ?_
              rintro e w5 ⟨rfl, hk6⟩
              have hk46 := hk45.trans hk6 (fun _ _ h => h)
              have hK6 := hK3.trans hk46 (fun _ _ h => h)
              go_wp2_with fail
              go_ret3
              exact ⟨_, _, rfl, fun h => absurd h (by decide), hK6, fun g hg => by simp [Value.ownBlock] at hg⟩
            case false.true =>
              have HA := Lib.hid (HA1.out (by rw [HE.out, q1, q2]; rfl))
              rw [q1] at H9
              rw [q2] at H0
              clear HR3 HA1 HA2 HE q1 q2
              go_wp2_with fail
              refine (H9.out _).mono ?_
              rintro e w4 ⟨rfl, hk5⟩
              have hk45 := hk4.trans hk5 (fun _ _ h => h)
              obtain ⟨lg', lo', hlgg, hlg', e0, e1, e2, e3, e4⟩ := HX.out _ hk45
              cases hlgg
              clear c0 c1 c2 c3 c4
              go_wp2_with fail
              refine (H0.out _).mono ?_
              rintro e w5 ⟨rfl, hk6⟩
              have hk46 := hk45.trans hk6 (fun _ _ h => h)
              have hk46D := hk5.trans hk6 (fun _ _ h => h)
              obtain ⟨bg', bc2, hbv, hbg', p9⟩ := HBI.out _ hk46
              cases hbv
              have hP9 := Sl.kept hk46D hP (fun _ _ h => h)
              go_wp2_with (at_builtin; go_loud (refine wpList_push (w := w5) rfl (.tmp 88) (.tmp 95) 93 rfl Tryz.underlying93 hI0 hI1 hI2 hI3 rfl (by omega) u9 (((List.range i).map (partAt B l.length)).map pcell) (pcell (f, (l.length : Int))) rfl rfl hP9 rfl (by simp [pcell, Value.oneCell']) (by rw [List.length_map, HML.out]; omega) (by omega) ?_); intro g5 cap5 w9 hS5 hk9 hg5)
              have hK9 := hk46.trans hk9 (fun k hk e => by have := HOWN.out k e; omega)
              have hS6 : Pts w9 (.slice (some ⟨g5, 0, none⟩) (i + 1) cap5) ((List.range (i + 1)).map (partAt B l.length)) := by
                rw [HNX.out]
                unfold Pts
                rw [List.map_append]
                have h5 := hS5
                rw [List.length_map, HML.out] at h5
                rw [show ((m + 1 : Nat) : Int) = (l.length : Int) by have := HD1.out; omega]
                exact h5
              go_roundw
              case rel => exact ⟨i + 1, by go_num, by omega, hS6, HA.out, hK9, fun g hg => by
                have hg2 : g5 = g := Option.some.inj hg
                subst hg2
                exact hg5.elim (HOWN.out _) (fun h => Nat.le_trans hk46.size h)⟩
              case measure => simp [intOf]; omega
            case true.false =>
              have HA := Lib.hid (HA1.out (by rw [HE.out, q1, q2]; rfl))
              rw [q1] at H9
              clear HR3 HA1 HA2 HE q1 q2
              go_wp2_with fail
              refine (H9.out _).mono ?_
              rintro e w4 ⟨rfl, hk5⟩
              have hk45 := hk4.trans hk5 (fun _ _ h => h)
              have hk45D := hk5
              obtain ⟨bg', bc2, hbv, hbg', p9⟩ := HBI.out _ hk45
              cases hbv
              have hP9 := Sl.kept hk45D hP (fun _ _ h => h)
              go_wp2_with (at_builtin; go_loud (refine wpList_push (w := w4) rfl (.tmp 88) (.tmp 95) 93 rfl Tryz.underlying93 hI0 hI1 hI2 hI3 rfl (by omega) u9 (((List.range i).map (partAt B l.length)).map pcell) (pcell (f, (l.length : Int))) rfl rfl hP9 rfl (by simp [pcell, Value.oneCell']) (by rw [List.length_map, HML.out]; omega) (by omega) ?_); intro g5 cap5 w9 hS5 hk9 hg5)
              have hK9 := hk45.trans hk9 (fun k hk e => by have := HOWN.out k e; omega)
              have hS6 : Pts w9 (.slice (some ⟨g5, 0, none⟩) (i + 1) cap5) ((List.range (i + 1)).map (partAt B l.length)) := by
                rw [HNX.out]
                unfold Pts
                rw [List.map_append]
                have h5 := hS5
                rw [List.length_map, HML.out] at h5
                rw [show ((m + 1 : Nat) : Int) = (l.length : Int) by have := HD1.out; omega]
                exact h5
              go_roundw
              case rel => exact ⟨i + 1, by go_num, by omega, hS6, HA.out, hK9, fun g hg => by
                have hg2 : g5 = g := Option.some.inj hg
                subst hg2
                exact hg5.elim (HOWN.out _) (fun h => Nat.le_trans hk45.size h)⟩
              case measure => simp [intOf]; omega
          case true =>
            have hkv := HKV.out
            simp only [Bool.false_eq_true, if_false, if_true] at hkv
            clear HKV
            have hkv2 : (m : Int) - 1 = k := hkv.symm
            clear hkv
            go_upto_region 24 with fail
            cases q1 : (x.op == 149) <;> cases q2 : (x.op == 5)
            case true.true =>
              exfalso
              simp only [beq_iff_eq] at q1 q2
              omega
            case false.false =>
              have hr := HR3.out
              rw [HA2.out (by rw [HE.out, q1, q2]; rfl)] at hr
              simp only [Bool.false_eq_true, if_false] at hr
              subst hr
              rw [q1] at H9
              rw [q2] at H0
              clear HR3 HA1 HA2 HE q1 q2
              go_wp2_with fail
              refine (H9.out _).mono ?_
              rintro e w4 ⟨rfl, hk5⟩
              have hk45 := hk4.trans hk5 (fun _ _ h => h)
              obtain ⟨lg', lo', hlgg, hlg', e0, e1, e2, e3, e4⟩ := HX.out _ hk45
              cases hlgg
              clear c0 c1 c2 c3 c4
              go_wp2_with fail
              refine (H0.out _).mono ?_
              rintro e w5 ⟨rfl, hk6⟩
              have hk46 := hk45.trans hk6 (fun _ _ h => h)
              have hK6 := hK3.trans hk46 (fun _ _ h => h)
              go_wp2_with fail
              go_ret3
              exact ⟨_, _, rfl, fun h => absurd h (by decide), hK6, fun g hg => by simp [Value.ownBlock] at hg⟩
            case false.true =>
              have HA := Lib.hid (HA1.out (by rw [HE.out, q1, q2]; rfl))
              rw [q1] at H9
              rw [q2] at H0
              clear HR3 HA1 HA2 HE q1 q2
              go_wp2_with fail
              refine (H9.out _).mono ?_
              rintro e w4 ⟨rfl, hk5⟩
              have hk45 := hk4.trans hk5 (fun _ _ h => h)
              obtain ⟨lg', lo', hlgg, hlg', e0, e1, e2, e3, e4⟩ := HX.out _ hk45
              cases hlgg
              clear c0 c1 c2 c3 c4
              go_wp2_with fail
              refine (H0.out _).mono ?_
              rintro e w5 ⟨rfl, hk6⟩
              have hk46 := hk45.trans hk6 (fun _ _ h => h)
              have hk46D := hk5.trans hk6 (fun _ _ h => h)
              obtain ⟨bg', bc2, hbv, hbg', p9⟩ := HBI.out _ hk46
              cases hbv
              have hP9 := Sl.kept hk46D hP (fun _ _ h => h)
              go_wp2_with (at_builtin; go_loud (refine wpList_push (w := w5) rfl (.tmp 88) (.tmp 95) 93 rfl Tryz.underlying93 hI0 hI1 hI2 hI3 rfl (by omega) u9 (((List.range i).map (partAt B l.length)).map pcell) (pcell (f, (l.length : Int))) rfl rfl hP9 rfl (by simp [pcell, Value.oneCell']) (by rw [List.length_map, HML.out]; omega) (by omega) ?_); intro g5 cap5 w9 hS5 hk9 hg5)
              have hK9 := hk46.trans hk9 (fun k hk e => by have := HOWN.out k e; omega)
              have hS6 : Pts w9 (.slice (some ⟨g5, 0, none⟩) (i + 1) cap5) ((List.range (i + 1)).map (partAt B l.length)) := by
                rw [HNX.out]
                unfold Pts
                rw [List.map_append]
                have h5 := hS5
                rw [List.length_map, HML.out] at h5
                rw [show ((m + 1 : Nat) : Int) = (l.length : Int) by have := HD1.out; omega]
                exact h5
              go_roundw
              case rel => exact ⟨i + 1, by go_num, by omega, hS6, HA.out, hK9, fun g hg => by
                have hg2 : g5 = g := Option.some.inj hg
                subst hg2
                exact hg5.elim (HOWN.out _) (fun h => Nat.le_trans hk46.size h)⟩
              case measure => simp [intOf]; omega
            case true.false =>
              have HA := Lib.hid (HA1.out (by rw [HE.out, q1, q2]; rfl))
              rw [q1] at H9
              clear HR3 HA1 HA2 HE q1 q2
              go_wp2_with fail
              refine (H9.out _).mono ?_
              rintro e w4 ⟨rfl, hk5⟩
              have hk45 := hk4.trans hk5 (fun _ _ h => h)
              have hk45D := hk5
              obtain ⟨bg', bc2, hbv, hbg', p9⟩ := HBI.out _ hk45
              cases hbv
              have hP9 := Sl.kept hk45D hP (fun _ _ h => h)
              go_wp2_with (at_builtin; go_loud (refine wpList_push (w := w4) rfl (.tmp 88) (.tmp 95) 93 rfl Tryz.underlying93 hI0 hI1 hI2 hI3 rfl (by omega) u9 (((List.range i).map (partAt B l.length)).map pcell) (pcell (f, (l.length : Int))) rfl rfl hP9 rfl (by simp [pcell, Value.oneCell']) (by rw [List.length_map, HML.out]; omega) (by omega) ?_); intro g5 cap5 w9 hS5 hk9 hg5)
              have hK9 := hk45.trans hk9 (fun k hk e => by have := HOWN.out k e; omega)
              have hS6 : Pts w9 (.slice (some ⟨g5, 0, none⟩) (i + 1) cap5) ((List.range (i + 1)).map (partAt B l.length)) := by
                rw [HNX.out]
                unfold Pts
                rw [List.map_append]
                have h5 := hS5
                rw [List.length_map, HML.out] at h5
                rw [show ((m + 1 : Nat) : Int) = (l.length : Int) by have := HD1.out; omega]
                exact h5
              go_roundw
              case rel => exact ⟨i + 1, by go_num, by omega, hS6, HA.out, hK9, fun g hg => by
                have hg2 : g5 = g := Option.some.inj hg
                subst hg2
                exact hg5.elim (HOWN.out _) (fun h => Nat.le_trans hk45.size h)⟩
              case measure => simp [intOf]; omega

end Go.Proofs.YtdchmelgaljpfaaGreat
