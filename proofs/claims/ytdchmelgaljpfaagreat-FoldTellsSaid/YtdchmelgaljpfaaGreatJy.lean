import Derived.Test.YtdchmelgaljpfaaGreatJw
set_option linter.unusedSimpArgs false
set_option linter.unusedVariables false
namespace Go.Proofs.YtdchmelgaljpfaaGreat
open Go.RowKit

/-! ### the parts of slots without a fault -/
theorem ofS_at {P : List Pt2} {t : Int} {k : Nat} {p : Pt2} (hp : P[k]? = some p) (hin : inP p t = true) (hno : ∀ j q, j < k → P[j]? = some q → inP q t = false) :
    ∀ (n i : Nat), i ≤ k → k < i + n → ofS P t i n = k
  | 0, i, h1, h2 => by omega
  | n + 1, i, h1, h2 => by
    unfold ofS
    rcases Nat.eq_or_lt_of_le h1 with rfl | hlt
    · rw [hp]
      simp [hin]
    · obtain ⟨q, hq⟩ : ∃ q, P[i]? = some q := ⟨_, List.getElem?_eq_getElem (by have := (List.getElem?_eq_some_iff.1 hp).1; omega)⟩
      rw [hq]
      simp only [Option.map_some, Option.getD_some, hno i q hlt hq, Bool.false_eq_true, if_false]
      exact ofS_at hp hin hno n (i + 1) hlt (by omega)
theorem begins_zero {l : List In} (h : slotsC l = 0) : 0 < (beginsL l).length ∧ (beginsL l).getD 0 0 = 0 := by
  obtain ⟨b1, b2, b3⟩ := begins_ok h
  have h0 : (0 : Int) ∈ beginsL l := (b2 0).2 (.inl rfl)
  obtain ⟨j, hj, e⟩ := List.mem_iff_getElem.1 h0
  have hp : 0 < (beginsL l).length := by omega
  refine ⟨hp, ?_⟩
  rw [List.getD_eq_getElem?_getD, List.getElem?_eq_getElem hp]
  show (beginsL l)[0] = 0
  have := (b3 _ (List.getElem_mem hp)).1
  rcases Nat.eq_zero_or_pos j with rfl | hj0
  · exact e
  · have := List.pairwise_iff_getElem.1 b1 0 j hp hj hj0
    omega
theorem begins_lt {l : List In} (h : slotsC l = 0) {i j : Nat} (hij : i < j) (hj : j < (beginsL l).length) : (beginsL l).getD i 0 < (beginsL l).getD j 0 := by
  obtain ⟨b1, b2, b3⟩ := begins_ok h
  have hi : i < (beginsL l).length := by omega
  rw [List.getD_eq_getElem?_getD, List.getD_eq_getElem?_getD, List.getElem?_eq_getElem hi, List.getElem?_eq_getElem hj]
  exact List.pairwise_iff_getElem.1 b1 i j hi hj hij
theorem parts_get {l : List In} {k : Nat} (hk : k < (beginsL l).length) : (partsL l)[k]? = some (partAt (beginsL l) l.length k) := by
  unfold partsL partsOf
  rw [List.getElem?_map, range_take _ _ hk]
  rfl
theorem part_find {l : List In} (h : slotsC l = 0) {t : Int} (ht : t < l.length) : ∀ (n m : Nat), m + n = (beginsL l).length → m < (beginsL l).length → (beginsL l).getD m 0 ≤ t →
    ∃ k, k < (beginsL l).length ∧ (partAt (beginsL l) l.length k).1 ≤ t ∧ t < (partAt (beginsL l) l.length k).2
  | 0, m, h1, h2, _ => by omega
  | n + 1, m, h1, h2, h3 => by
    by_cases hn : m + 1 < (beginsL l).length
    · by_cases h4 : (beginsL l).getD (m + 1) 0 ≤ t
      · exact part_find h ht n (m + 1) (by omega) hn h4
      · refine ⟨m, h2, h3, ?_⟩
        unfold partAt
        rw [if_pos hn]
        exact Int.not_le.1 h4
    · refine ⟨m, h2, h3, ?_⟩
      unfold partAt
      rw [if_neg hn]
      exact ht
theorem part_of {l : List In} (h : slotsC l = 0) {k : Nat} {p : Pt2} (hp : (partsL l)[k]? = some p) {t : Int} (h1 : p.1 ≤ t) (h2 : t < p.2) : ofC (partsL l) t = k := by
  unfold ofC
  refine ofS_at hp (by unfold inP; simp [h1, h2]) (fun j q hj hq => ?_) _ 0 (by omega) (by have := (List.getElem?_eq_some_iff.1 hp).1; omega)
  obtain ⟨hkb, rfl⟩ := parts_at hp
  obtain ⟨hjb, rfl⟩ := parts_at hq
  unfold inP
  rw [Bool.and_eq_false_iff]
  right
  unfold partAt at h1 ⊢
  rw [if_pos (by omega)]
  simp only at h1 ⊢
  rcases Nat.eq_or_lt_of_le (show j + 1 ≤ k from hj) with rfl | hlt
  · exact decide_eq_false (by omega)
  · have := begins_lt h hlt hkb
    exact decide_eq_false (by omega)
theorem part_ex {l : List In} (h : slotsC l = 0) {t : Int} (h0 : 0 ≤ t) (ht : t < l.length) : ∃ (k : Nat) (p : Pt2), (partsL l)[k]? = some p ∧ p.1 ≤ t ∧ t < p.2 ∧ ofC (partsL l) t = k := by
  obtain ⟨hp, hz⟩ := begins_zero h
  obtain ⟨k, hk, h1, h2⟩ := part_find h ht (beginsL l).length 0 (by omega) hp (by rw [hz]; exact h0)
  exact ⟨k, _, parts_get hk, h1, h2, part_of h (parts_get hk) h1 h2⟩

/-! ### jumps that lead nowhere -/
def badR (l : List In) (i : Nat) : Bool := match l[i]?, (secL l)[i]? with
  | some x, some false => isJumpB x && (decide (toR l.length i x.off < 0) || ((secL l)[(toR l.length i x.off).toNat]? == some true || ofC (partsL l) (toR l.length i x.off) != ofC (partsL l) i))
  | _, _ => false
theorem bad_eq {l : List In} (h : slotsC l = 0) {k : Nat} {f t : Nat} (hp : (partsL l)[k]? = some ((f : Int), (t : Int))) {i : Nat} (h1 : f ≤ i) (h2 : i < t) : badR l i = jbadB l f t i := by
  obtain ⟨hr1, hr2, hr3⟩ := (parts_ok h).rng _ (List.mem_of_getElem? hp)
  unfold badR jbadB
  cases hx : l[i]? with
  | none => rfl
  | some x =>
    cases hb : (secL l)[i]? with
    | none => rfl
    | some b =>
      cases b
      case true => rfl
      case false =>
        simp only
        have hi := part_of h hp (t := i) (Int.ofNat_le.2 h1) (Int.ofNat_lt.2 h2)
        congr 1
        unfold goC toR
        generalize (i : Int) + 1 + x.off = n
        simp only at hr3
        rw [hi]
        by_cases c1 : n < 0
        · rw [if_pos c1]
          have : decide (n < (f : Int)) = true := decide_eq_true (by omega)
          rw [this]
          simp
        rw [if_neg c1]
        by_cases c2 : (l.length : Int) ≤ n
        · rw [if_pos c2]
          have : decide ((t : Int) ≤ n) = true := decide_eq_true (by omega)
          rw [this]
          simp
        rw [if_neg c2]
        have hd0 : decide (n < 0) = false := decide_eq_false c1
        rw [hd0, Bool.false_or]
        by_cases c3 : (f : Int) ≤ n ∧ n < t
        · have hn := part_of h hp (t := n) c3.1 c3.2
          have e1 : decide (n < (f : Int)) = false := decide_eq_false (by omega)
          have e2 : decide ((t : Int) ≤ n) = false := decide_eq_false (by omega)
          rw [hn, e1, e2]
          simp
        · obtain ⟨k2, p2, hp2, q1, q2, hn⟩ := part_ex h (t := n) (by omega) (by omega)
          have hne : k2 ≠ k := by
            rintro rfl
            rw [hp] at hp2
            cases hp2
            exact c3 ⟨q1, q2⟩
          have hbn : (((k2 : Nat) : Int) != (k : Int)) = true := bne_iff_ne.2 (by omega)
          rw [hn, hbn]
          have hor : (decide (n < (f : Int)) || decide ((t : Int) ≤ n)) = true := by
            by_cases c4 : n < (f : Int)
            · rw [decide_eq_true c4, Bool.true_or]
            · rw [decide_eq_true (p := (t : Int) ≤ n) (by omega), Bool.or_true]
          rw [Bool.or_true, ← Bool.or_assoc, hor, Bool.true_or]
theorem leads_eq {l : List In} (h : slotsC l = 0) : leadsB l (partsL l) = (List.range l.length).all fun i => !badR l i := by
  rw [Bool.eq_iff_iff]
  unfold leadsB
  simp only [List.all_eq_true, List.mem_range, Bool.not_eq_true']
  constructor
  · intro hl i hi
    obtain ⟨k, p, hp, h1, h2, _⟩ := part_ex h (t := i) (by omega) (by omega)
    obtain ⟨f, t, rfl, hft, htl⟩ := (parts_ok h).nat hp
    simp only at h1 h2
    rw [bad_eq h hp (by omega) (by omega)]
    have := hl _ (List.mem_of_getElem? hp)
    unfold leadB at this
    simp only [List.all_eq_true, List.mem_range, Bool.not_eq_true', Int.toNat_natCast] at this
    have h3 := this (i - f) (by omega)
    rwa [show f + (i - f) = i by omega] at h3
  · intro hl p hp
    obtain ⟨k, hk⟩ := List.mem_iff_getElem?.1 hp
    obtain ⟨f, t, rfl, hft, htl⟩ := (parts_ok h).nat hk
    unfold leadB
    simp only [List.all_eq_true, List.mem_range, Bool.not_eq_true', Int.toNat_natCast]
    intro j hj
    rw [← bad_eq h hk (by omega) (by omega)]
    exact hl _ (by omega)

end Go.Proofs.YtdchmelgaljpfaaGreat
set_option linter.unusedSimpArgs false
set_option linter.unusedVariables false
namespace Go.Proofs.YtdchmelgaljpfaaGreat
open Go.RowKit

/-! ### Check -/
theorem all_step {q : Nat → Bool} {n : Nat} (h : ((List.range n).all fun i => !q i) = true) (hq : q n = false) : ((List.range (n + 1)).all fun i => !q i) = true := by
  rw [List.range_succ, List.all_append, h]
  simp [hq]
theorem all_stop {q : Nat → Bool} {n m : Nat} (hn : n < m) (hq : q n = true) : ((List.range m).all fun i => !q i) = false := by
  rw [List.all_eq_false]
  exact ⟨n, List.mem_range.2 hn, by simp [hq]⟩
theorem checkI_eq (l : List In) : checkI l = if subsC l = 0 then (if ((List.range l.length).all fun i => !badR l i) = true then 0 else 15) else subsC l := by
  unfold checkI subsC
  by_cases h : slotsC l = 0
  · rw [if_pos h, if_pos h]
    by_cases h2 : endedC l (partsL l) = 0
    · rw [if_pos h2, if_pos h2, leads_eq h]
    · rw [if_neg h2, if_neg h2]
  · rw [if_neg h, if_neg h, if_neg h]
theorem subs_zero {l : List In} (h : subsC l = 0) : slotsC l = 0 := by
  unfold subsC at h
  by_cases hz : slotsC l = 0
  · exact hz
  · rw [if_neg hz] at h
    exact absurd h hz
set_option maxHeartbeats 4000000 in
set_option maxRecDepth 100000 in
theorem rcheck_any (l : List In) (a : Option Addr) (c : Nat) (w : World) (h : Ins w (.slice a l.length c) l) (hok : InsOk l) :
    Calls Tryz.prog 18 #[.slice a l.length c] w fun e w' => (∃ p : Int, e = .returned (.tuple #[.int .i64 p, .int .i64 (checkI l)])) ∧ Kept (fun _ => False) w w' := by
  have hlen := hok.len
  have HSU := Lib.hid (fun W hI => subs_any l a c W hI hok)
  have HSE := Lib.hid (fun W hI => seconds_any l a c W hI hok)
  have HIN := Lib.hid (fun (W : World) (hk : Kept (fun _ => False) w W) => h.kept hk)
  obtain ⟨r, hr⟩ : ∃ r, checkI l = r := ⟨_, rfl⟩
  rw [hr]
  rw [checkI_eq] at hr
  by_cases hz : subsC l = 0
  case neg =>
    rw [if_neg hz] at hr
    have hzd : (subsC l != 0) = true := by simpa using hz
    rw [hr] at HSU hzd
    clear hz hr hok h
    go_enter Tryz.func18, Tryz.ntmps18
    go_wp2_with fail
    refine (HSU.out _ (HIN.out _ (Kept.refl _ w))).mono ?_
    rintro e w1 ⟨pv, p, rfl, hP, hk1, ho1⟩
    clear hP
    go_wp2_with fail
    go_ret2
    exact ⟨⟨_, rfl⟩, hk1⟩
  case pos =>
  rw [if_pos hz] at hr
  rw [hz] at HSU
  have hsz := subs_zero hz
  have hl1 := (slots_zero hsz).1
  have hpl := parts_len l
  have hbl := begins_len l
  have HJE := Lib.hid (fun i x (hx : l[i]? = some x) hs => jump_eq (hok.at_ hx) (known_of hsz hx hs))
  have HIS := Lib.hid (fun i x W (hx : l[i]? = some x) => ris_any x 0 W (hok.at_ hx))
  have HCM := Lib.hid (fun i x W (hx : l[i]? = some x) => rcompares_any x W (hok.at_ hx))
  have HOFF := Lib.hid (fun i x (hx : l[i]? = some x) => (hok.at_ hx).off)
  have HTO := Lib.hid (fun i b W hi hb => rto_any a c l.length i b W hi hb)
  have HOF := Lib.hid (fun pv t W hP => of_any (partsL l) pv t W hP (by omega))
  have HR := Lib.hid hr
  clear hr h hok hz hsz
  go_enter Tryz.func18, Tryz.ntmps18
  go_wp2_with fail
  refine (HSU.out _ (HIN.out _ (Kept.refl _ w))).mono ?_
  rintro e w1 ⟨pv, p, rfl, hP, hk1, ho1⟩
  have hP := hP (by first | rfl | trivial)
  go_wp2_with fail
  refine (HSE.out _ (HIN.out _ hk1)).mono ?_
  rintro e w2 ⟨sv, rfl, hS, hk2, ho2⟩
  have hK2 := hk1.trans hk2 (fun _ _ h => h)
  have hP2 := Sl.kept hk2 hP (fun _ _ h => h)
  have HP := Lib.hid (fun (W : World) (hk : Kept (fun _ => False) w2 W) => (Sl.kept hk hP2 (fun _ _ h => h) : Pts W pv (partsL l)))
  have HS := Lib.hid (fun (W : World) (hk : Kept (fun _ => False) w2 W) => (Sl.kept hk hS (fun _ _ h => h) : Bls W sv (secL l)))
  have HI := Lib.hid (fun (W : World) (hk : Kept (fun _ => False) w2 W) => HIN.out W (hK2.trans hk (fun _ _ h => h)))
  obtain ⟨sg, sc, rfl, hsl, hsg⟩ := Sl.some_ hS (by rw [List.length_map, sec_len]; omega)
  rw [List.length_map, sec_len] at *
  clear hP hP2 hS ho1 ho2 hk1 hk2 HIN HSU HSE hsl
  go_wp2_with fail
  go_loopw [8] (fun iv wr => ∃ i : Nat, iv = .int .i64 i ∧ i ≤ l.length ∧ ((List.range i).all fun i => !badR l i) = true ∧ Kept (fun _ => False) w2 wr) (fun iv _ => l.length - (intOf iv).toNat)
  case atStart => exact ⟨0, rfl, by omega, rfl, Kept.refl _ _⟩
  case round =>
    obtain ⟨i, rfl, hi, hall, hk3⟩ := hrel
    by_cases hlt : i < l.length
    case neg =>
      obtain rfl : i = l.length := by omega
      have hr := HR.out
      rw [if_pos hall] at hr
      subst hr
      have hnd : decide ((l.length : Int) < l.length) = false := decide_eq_false (by omega)
      clear hall HR HJE HOFF
      go_wp2_with fail
      go_ret2
      exact ⟨⟨_, rfl⟩, hK2.trans hk3 (fun _ _ h => h)⟩
    case pos =>
    obtain ⟨x, hx⟩ : ∃ x, l[i]? = some x := ⟨_, List.getElem?_eq_getElem hlt⟩
    obtain ⟨b, hb⟩ : ∃ b, (secL l)[i]? = some b := ⟨_, List.getElem?_eq_getElem (by rw [sec_len]; omega)⟩
    have d0 := Bls.cell (HS.out _ hk3) hb
    have hsg3 := Nat.lt_of_lt_of_le hsg hk3.size
    have hbr : badR l i = (!b && (isJumpB x && (decide (toR l.length i x.off < 0) || ((secL l)[(toR l.length i x.off).toNat]? == some true || ofC (partsL l) (toR l.length i x.off) != ofC (partsL l) i)))) := by
      unfold badR
      rw [hx, hb]
      cases b <;> rfl
    have HNX := Lib.hid (fun hq => all_step (q := badR l) hall hq)
    have HSTP := Lib.hid (fun hq => all_stop (q := badR l) hlt hq)
    have hjj : b = false → isJumpB x = (isR x 0 || cmpR x) := fun e => HJE.out i x hx (by rw [hb, e])
    have H0 := Lib.hid (fun W => HIS.out i x W hx)
    have HC := Lib.hid (fun W => HCM.out i x W hx)
    have hoff := HOFF.out i x hx
    have HT := Lib.hid (fun W => HTO.out i x.off W (by omega) ⟨by omega, by omega⟩)
    have HX := Lib.hid (fun W hk => (HI.out W hk).at_ hx)
    obtain ⟨lg, lo, rfl, hlg, c0, c1, c2, c3, c4⟩ := HX.out _ hk3
    have HBR := Lib.hid hbr
    have HJJ := Lib.hid hjj
    clear hbr hx hb hall hjj HIS HCM HOFF HTO
    cases b
    case true =>
      have HN := Lib.hid (HNX.out (by rw [HBR.out]; rfl))
      clear HNX HSTP HBR HJJ
      go_wp2_with fail
      go_roundw
      case rel => exact ⟨i + 1, by go_num, by omega, HN.out, hk3⟩
      case measure => simp [intOf]; omega
    case false =>
    have hjj := HJJ.out rfl
    have hbr := HBR.out
    rw [hjj, Bool.not_false, Bool.true_and] at hbr
    have HBR := Lib.hid hbr
    clear hbr hjj HJJ
    have htr : toR l.length i x.off < 0 ∨ ∃ n : Nat, toR l.length i x.off = n ∧ n < l.length := by
      unfold toR
      split
      · left; omega
      · split
        · left; omega
        · exact .inr ⟨((i : Int) + 1 + x.off).toNat, by omega, by omega⟩
    generalize toR l.length i x.off = n at *
    generalize isR x 0 = b0 at *
    generalize cmpR x = bc at *
    go_wp2_with fail
    refine (H0.out _).mono ?_
    rintro e w4 ⟨rfl, hk4⟩
    have hk34 := hk3.trans hk4 (fun _ _ h => h)
    obtain ⟨lg', lo', hlgg, hlg', e0, e1, e2, e3, e4⟩ := HX.out _ hk34
    cases hlgg
    clear c0 c1 c2 c3 c4
    cases b0
    case true =>
      have hbr := HBR.out
      rw [Bool.true_or, Bool.true_and] at hbr
      have HBR := Lib.hid hbr
      clear hbr
      have hK := hK2.trans hk34 (fun _ _ h => h)
      rcases htr with hn | ⟨m, rfl, hm⟩
      case inl =>
        have hnd : decide (n < 0) = true := decide_eq_true hn
        have HBA := Lib.hid (show badR l i = true by rw [HBR.out, hnd, Bool.true_or])
        have hr := HR.out
        rw [HSTP.out HBA.out] at hr
        simp only [Bool.false_eq_true, if_false] at hr
        subst hr
        clear HNX HSTP HBR HBA HR hn
        go_wp2_with (go_at_call 59; refine (HT.out _).mono ?_; rintro e w7 ⟨rfl, rfl⟩)
        go_ret2
        exact ⟨⟨_, rfl⟩, hK⟩
      case inr =>
        have hnd : decide ((m : Int) < 0) = false := decide_eq_false (by omega)
        obtain ⟨b2, hb2⟩ : ∃ b2, (secL l)[m]? = some b2 := ⟨_, List.getElem?_eq_getElem (by rw [sec_len]; omega)⟩
        have f0 := Bls.cell (HS.out _ hk34) hb2
        have hbr := HBR.out
        rw [hnd, Bool.false_or, Int.toNat_natCast, hb2] at hbr
        have HBR := Lib.hid hbr
        clear hbr hb2
        cases b2
        case true =>
          have HBA := Lib.hid (show badR l i = true by rw [HBR.out]; rfl)
          have hr := HR.out
          rw [HSTP.out HBA.out] at hr
          simp only [Bool.false_eq_true, if_false] at hr
          subst hr
          clear HNX HSTP HBR HBA HR
          go_wp2_with (go_at_call 59; refine (HT.out _).mono ?_; rintro e w7 ⟨rfl, rfl⟩)
          go_ret2
          exact ⟨⟨_, rfl⟩, hK⟩
        case false =>
          have HO1 := Lib.hid (HOF.out pv m _ (HP.out _ hk34))
          have HO2 := Lib.hid (HOF.out pv i _ (HP.out _ hk34))
          have hbr := HBR.out
          rw [show (some false == some true) = false from rfl, Bool.false_or] at hbr
          generalize ofC (partsL l) m = o1 at *
          generalize ofC (partsL l) i = o2 at *
          cases hoo : (o1 != o2)
          case true =>
            rw [hoo] at hbr
            have HBA := Lib.hid hbr
            have hr := HR.out
            rw [HSTP.out HBA.out] at hr
            simp only [Bool.false_eq_true, if_false] at hr
            subst hr
            clear HNX HSTP HBR HBA HR hbr
            go_wp2_with (go_at_call 59; refine (HT.out _).mono ?_; rintro e w7 ⟨rfl, rfl⟩)
            refine HO1.out.mono ?_
            rintro e w7 ⟨rfl, rfl⟩
            go_wp2_with fail
            refine HO2.out.mono ?_
            rintro e w7 ⟨rfl, rfl⟩
            go_wp2_with fail
            go_ret2
            exact ⟨⟨_, rfl⟩, hK⟩
          case false =>
            rw [hoo] at hbr
            have HN := Lib.hid (HNX.out hbr)
            clear HNX HSTP HBR HR hbr
            go_wp2_with (go_at_call 59; refine (HT.out _).mono ?_; rintro e w7 ⟨rfl, rfl⟩)
            refine HO1.out.mono ?_
            rintro e w7 ⟨rfl, rfl⟩
            go_wp2_with fail
            refine HO2.out.mono ?_
            rintro e w7 ⟨rfl, rfl⟩
            go_wp2_with fail
            go_roundw
            case rel => exact ⟨i + 1, by go_num, by omega, HN.out, hk34⟩
            case measure => simp [intOf]; omega
    case false =>
      go_wp2_with fail
      refine (HC.out _).mono ?_
      rintro e w5 ⟨rfl, hk5⟩
      have hk35 := hk34.trans hk5 (fun _ _ h => h)
      obtain ⟨lg', lo', hlgg, hlg2, f0, f1, f2, f3, f4⟩ := HX.out _ hk35
      cases hlgg
      clear e0 e1 e2 e3 e4
      cases bc
      case false =>
        have HN := Lib.hid (HNX.out (by rw [HBR.out]; rfl))
        clear HNX HSTP HBR
        go_wp2_with fail
        go_roundw
        case rel => exact ⟨i + 1, by go_num, by omega, HN.out, hk35⟩
        case measure => simp [intOf]; omega
      case true =>
        have hbr := HBR.out
        rw [Bool.false_or, Bool.true_and] at hbr
        have HBR := Lib.hid hbr
        clear hbr
        have hK := hK2.trans hk35 (fun _ _ h => h)
        rcases htr with hn | ⟨m, rfl, hm⟩
        case inl =>
          have hnd : decide (n < 0) = true := decide_eq_true hn
          have HBA := Lib.hid (show badR l i = true by rw [HBR.out, hnd, Bool.true_or])
          have hr := HR.out
          rw [HSTP.out HBA.out] at hr
          simp only [Bool.false_eq_true, if_false] at hr
          subst hr
          clear HNX HSTP HBR HBA HR hn
          go_wp2_with (go_at_call 59; refine (HT.out _).mono ?_; rintro e w7 ⟨rfl, rfl⟩)
          go_ret2
          exact ⟨⟨_, rfl⟩, hK⟩
        case inr =>
          have hnd : decide ((m : Int) < 0) = false := decide_eq_false (by omega)
          obtain ⟨b2, hb2⟩ : ∃ b2, (secL l)[m]? = some b2 := ⟨_, List.getElem?_eq_getElem (by rw [sec_len]; omega)⟩
          have e0 := Bls.cell (HS.out _ hk35) hb2
          have hbr := HBR.out
          rw [hnd, Bool.false_or, Int.toNat_natCast, hb2] at hbr
          have HBR := Lib.hid hbr
          clear hbr hb2
          cases b2
          case true =>
            have HBA := Lib.hid (show badR l i = true by rw [HBR.out]; rfl)
            have hr := HR.out
            rw [HSTP.out HBA.out] at hr
            simp only [Bool.false_eq_true, if_false] at hr
            subst hr
            clear HNX HSTP HBR HBA HR
            go_wp2_with (go_at_call 59; refine (HT.out _).mono ?_; rintro e w7 ⟨rfl, rfl⟩)
            go_ret2
            exact ⟨⟨_, rfl⟩, hK⟩
          case false =>
            have HO1 := Lib.hid (HOF.out pv m _ (HP.out _ hk35))
            have HO2 := Lib.hid (HOF.out pv i _ (HP.out _ hk35))
            have hbr := HBR.out
            rw [show (some false == some true) = false from rfl, Bool.false_or] at hbr
            generalize ofC (partsL l) m = o1 at *
            generalize ofC (partsL l) i = o2 at *
            cases hoo : (o1 != o2)
            case true =>
              rw [hoo] at hbr
              have HBA := Lib.hid hbr
              have hr := HR.out
              rw [HSTP.out HBA.out] at hr
              simp only [Bool.false_eq_true, if_false] at hr
              subst hr
              clear HNX HSTP HBR HBA HR hbr
              go_wp2_with (go_at_call 59; refine (HT.out _).mono ?_; rintro e w7 ⟨rfl, rfl⟩)
              refine HO1.out.mono ?_
              rintro e w7 ⟨rfl, rfl⟩
              go_wp2_with fail
              refine HO2.out.mono ?_
              rintro e w7 ⟨rfl, rfl⟩
              go_wp2_with fail
              go_ret2
              exact ⟨⟨_, rfl⟩, hK⟩
            case false =>
              rw [hoo] at hbr
              have HN := Lib.hid (HNX.out hbr)
              clear HNX HSTP HBR HR hbr
              go_wp2_with (go_at_call 59; refine (HT.out _).mono ?_; rintro e w7 ⟨rfl, rfl⟩)
              refine HO1.out.mono ?_
              rintro e w7 ⟨rfl, rfl⟩
              go_wp2_with fail
              refine HO2.out.mono ?_
              rintro e w7 ⟨rfl, rfl⟩
              go_wp2_with fail
              go_roundw
              case rel => exact ⟨i + 1, by go_num, by omega, HN.out, hk35⟩
              case measure => simp [intOf]; omega

end Go.Proofs.YtdchmelgaljpfaaGreat
