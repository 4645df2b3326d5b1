import Derived.Test.YtdchmelgaljpfaaGreatJs
import Derived.Test.YtdchmelgaljpfaaGreatJm
import Derived.Test.YtdchmelgaljpfaaGreatJo
import Derived.Outline
import Derived.Deep.DeepCutAuto
import Derived.Deep.CutBlock
set_option linter.unusedSimpArgs false
set_option linter.unusedVariables false
namespace Go.Proofs.YtdchmelgaljpfaaGreat
open Go.RowKit

/-! ### one -/
def callR (l : List In) (i : Nat) (x : In) : Int := if toR l.length i x.imm < 1 then 14 else if (secL l)[(toR l.length i x.imm).toNat]? = some true then 14 else 0
def restR (l : List In) (i : Nat) (x : In) : Int := if (helperR x && (decide (x.imm < 1) || decide (28 < x.imm))) = true then 14 else if namesR x = true then callR l i x else 0
def oneC (l : List In) (i : Nat) (x : In) : Int := if knownB x = false then 11 else if ((decide (10 < x.dst) || decide (10 < x.src)) || (x.dst == 10 && writesB x)) = true then 12
  else if (x.op == 24 && !wholeB l i) = true then 13 else restR l i x
set_option maxHeartbeats 8000000 in
set_option maxRecDepth 100000 in
theorem one_any (l : List In) (a : Option Addr) (c i : Nat) (x : In) (sv : Value) (w : World) (h : Ins w (.slice a l.length c) l) (hok : InsOk l) (hx : l[i]? = some x) (hS : Bls w sv (secL l)) :
    Calls Tryz.prog 63 #[.slice a l.length c, sv, .int .i64 i] w fun e w' => e = .returned (.int .i64 (oneC l i x)) ∧ Kept (fun _ => False) w w' := by
  have hlen := hok.len
  have hi := (List.getElem?_eq_some_iff.1 hx).1
  have hxo := hok.at_ hx
  have him := hxo.imm
  have HKN := Lib.hid (fun W => rknown_any x W hxo)
  have HWR := Lib.hid (fun W => rwrites_any x W hxo)
  have HWI := Lib.hid (fun W => rwide_any x W)
  have HHE := Lib.hid (fun W => rhelper_any x W hxo)
  have HNA := Lib.hid (fun W => rnames_any x W hxo)
  have HTO := Lib.hid (fun W => rto_any a c l.length i x.imm W (by omega) ⟨by omega, by omega⟩)
  have HINS := Lib.hid (fun (W : World) (hk : Kept (fun _ => False) w W) => h.kept hk)
  have HX := Lib.hid hx
  obtain ⟨r, hr⟩ : ∃ r, oneC l i x = r := ⟨_, rfl⟩
  rw [hr]
  unfold oneC at hr
  generalize hrc : restR l i x = rc at hr
  generalize hkn : knownB x = kn at *
  generalize hwr : writesB x = wr at *
  generalize hwh : wholeB l i = wh at *
  obtain ⟨g, off, rfl, hg, c0, c1, c2, c3, c4⟩ := h.at_ hx
  have HRC := Lib.hid hrc
  have HWH := Lib.hid hwh
  clear hrc hwh hkn hwr h hok hx hxo
  have hBn := Blk.new w 75 (inVals x)
  have hKn : Kept (fun _ => False) w (w.alloc (.cells (inVals x) 75)) := (Kept.refl _ w).alloc _
  go_enter Tryz.func63, Tryz.ntmps63
  go_upto_block 0 with fail
  go_cut [18] (fun _ wx => Blk wx w.heap.size 75 (inVals x) ∧ Kept (fun _ => False) w wx ∧ (if (x.op == 24 && !wh) = true then 13 else rc) = r)
  case first =>
    as_aux_lemma =>
    go_wp2_with fail
    refine (HKN.out _).mono ?_
    rintro e w1 ⟨rfl, hk1⟩
    have hb1 := hk1.blk (fun h => h) hBn
    have hK1 := hKn.trans hk1 (fun _ _ h => h)
    clear hBn hKn hk1 HKN
    cases kn
    case false =>
      simp only [reduceIte] at hr
      subst hr
      go_wp2_with fail
      go_ret
      exact ⟨rfl, hK1⟩
    case true =>
    simp only [Bool.true_eq_false, if_false] at hr
    have x0 := hb1.cell 0
    have x1 := hb1.cell 1
    have x2 := hb1.cell 2
    have x3 := hb1.cell 3
    have x4 := hb1.cell 4
    have hRG : (decide (10 < x.dst) = true ∨ decide (10 < x.dst) = false ∧ decide (10 < x.src) = true) ∨ decide (10 < x.dst) = false ∧ decide (10 < x.src) = false := by
      cases decide (10 < x.dst) <;> cases decide (10 < x.src) <;> simp
    rcases hRG with (r1 | ⟨r1, r2⟩) | ⟨r1, r2⟩
    case inl.inl =>
      simp only [r1, Bool.not_false, Bool.not_true, Bool.true_and, Bool.false_and, Bool.and_true, Bool.and_false, Bool.true_or, Bool.false_or, Bool.or_true, Bool.or_false, if_true, if_false, Bool.false_eq_true, reduceIte] at hr
      subst hr
      go_wp2_with fail
      go_ret
      exact ⟨rfl, hK1⟩
    case inl.inr =>
      simp only [r1, r2, Bool.not_false, Bool.not_true, Bool.true_and, Bool.false_and, Bool.and_true, Bool.and_false, Bool.true_or, Bool.false_or, Bool.or_true, Bool.or_false, if_true, if_false, Bool.false_eq_true, reduceIte] at hr
      subst hr
      go_wp2_with fail
      go_ret
      exact ⟨rfl, hK1⟩
    case inr =>
    simp only [r1, r2, Bool.true_or, Bool.false_or, Bool.or_true, Bool.or_false, Bool.false_eq_true] at hr
    cases r3 : (x.dst == 10)
    case false =>
      simp only [r3, Bool.true_and, Bool.false_and, if_true, if_false, Bool.false_eq_true, reduceIte] at hr
      go_wp2_with fail
      go_meet
      exact ⟨hb1, hK1, hr⟩
    case true =>
      simp only [r3, Bool.true_and, Bool.false_and] at hr
      go_wp2_with fail
      refine (HWR.out _).mono ?_
      rintro e w2 ⟨rfl, hk2⟩
      have hK2 := hK1.trans hk2 (fun _ _ h => h)
      have hb2 := hk2.blk (fun h => h) hb1
      clear hk2 hK1 hb1 x0 x1 x2 x3 x4
      have x0 := hb2.cell 0
      have x1 := hb2.cell 1
      have x2 := hb2.cell 2
      have x3 := hb2.cell 3
      have x4 := hb2.cell 4
      cases wr
      case true =>
        simp only [if_true, if_false, Bool.false_eq_true, reduceIte] at hr
        subst hr
        go_wp2_with fail
        go_ret
        exact ⟨rfl, hK2⟩
      case false =>
      simp only [if_true, if_false, Bool.false_eq_true, reduceIte] at hr
      go_wp2_with fail
      go_meet
      exact ⟨hb2, hK2, hr⟩
  case rest =>
  obtain ⟨hb1, hK1, hr⟩ := hcut
  clear hBn hKn HKN HWR
  have HR := Lib.hid hr
  clear hr
  have hl1 := hb1.lt
  have x0 := hb1.cell 0
  have x1 := hb1.cell 1
  have x2 := hb1.cell 2
  have x3 := hb1.cell 3
  have x4 := hb1.cell 4
  go_upto_if 37 with (go_at_call 77; refine (HWI.out _).mono ?_; rintro e w2 ⟨rfl, rfl⟩)
  clear x0 x1 x2 x3 x4
  have hb2 := (Kept.alloc (Kept.refl (fun _ => False) _) (.cells (inVals x) 75)).blk (fun h => h) hb1
  have hK2 := hK1.alloc (.cells (inVals x) 75)
  go_cut [18] (fun _ wx => Blk wx w.heap.size 75 (inVals x) ∧ Kept (fun _ => False) w wx ∧ rc = r)
  case first =>
    as_aux_lemma =>
    clear hb1 hK1
    have hr := HR.out
    clear HR
    cases h24 : (x.op == 24)
    case false =>
      simp only [h24, Bool.false_and, if_true, if_false, Bool.false_eq_true, reduceIte] at hr
      go_wp2_with fail
      go_meet
      exact ⟨hb2, hK2, hr⟩
    case true =>
    simp only [h24, Bool.true_and] at hr
    have hwh := HWH.out
    unfold wholeB at hwh
    rw [HX.out] at hwh
    by_cases hlt : i + 1 < l.length
    case neg =>
      rw [List.getElem?_eq_none (by omega)] at hwh
      simp only at hwh
      subst hwh
      simp only [Bool.not_false, if_true, if_false, Bool.false_eq_true, reduceIte] at hr
      subst hr
      have hd : ((i : Int) + 1 == (l.length : Int)) = true := by simp; omega
      go_wp2_with fail
      go_ret
      exact ⟨rfl, hK2⟩
    case pos =>
    obtain ⟨y, hy⟩ : ∃ y, l[i + 1]? = some y := ⟨_, List.getElem?_eq_getElem hlt⟩
    rw [hy] at hwh
    simp only at hwh
    have hd : ((i : Int) + 1 == (l.length : Int)) = false := by simp; omega
    obtain ⟨g', off', hgg, hg', d0, d1, d2, d3, d4⟩ := (HINS.out _ hK2).at_ hy
    cases hgg
    have x2 := hb2.cell 2
    have hl2 := hb2.lt
    clear hy
    unfold zeroB at hwh
    have hwz : (((((y.op == 0) && (y.dst == 0)) && (y.src == 0)) && (y.off == 0)) && ((x.src == 0) || (y.imm == 0))) = wh := by
      rw [← hwh]
      cases hs : (x.src == 0)
      · rw [if_neg (by simpa using hs)]
        simp
      · rw [if_pos (by simpa using hs)]
        simp
    clear hwh
    have n0 : (y.op != 0) = !(y.op == 0) := rfl
    have n1 : (y.dst != 0) = !(y.dst == 0) := rfl
    have n2 : (y.src != 0) = !(y.src == 0) := rfl
    have n3 : (y.off != 0) = !(y.off == 0) := rfl
    have n4 : (y.imm != 0) = !(y.imm == 0) := rfl
    have n5 : (x.src != 0) = !(x.src == 0) := rfl
    have hch : (y.op == 0) = false ∨ (y.op == 0) = true ∧ (y.dst == 0) = false ∨ (y.op == 0) = true ∧ (y.dst == 0) = true ∧ (y.src == 0) = false ∨ (y.op == 0) = true ∧ (y.dst == 0) = true ∧ (y.src == 0) = true ∧ (y.off == 0) = false ∨
        (y.op == 0) = true ∧ (y.dst == 0) = true ∧ (y.src == 0) = true ∧ (y.off == 0) = true ∧ (x.src == 0) = true ∨ (y.op == 0) = true ∧ (y.dst == 0) = true ∧ (y.src == 0) = true ∧ (y.off == 0) = true ∧ (x.src == 0) = false ∧ (y.imm == 0) = false ∨
        (y.op == 0) = true ∧ (y.dst == 0) = true ∧ (y.src == 0) = true ∧ (y.off == 0) = true ∧ (x.src == 0) = false ∧ (y.imm == 0) = true := by
      cases (y.op == 0) <;> cases (y.dst == 0) <;> cases (y.src == 0) <;> cases (y.off == 0) <;> cases (x.src == 0) <;> cases (y.imm == 0) <;> simp
    rcases hch with z0 | ⟨z0, z1⟩ | ⟨z0, z1, z2⟩ | ⟨z0, z1, z2, z3⟩ | ⟨z0, z1, z2, z3, z5⟩ | ⟨z0, z1, z2, z3, z5, z4⟩ | ⟨z0, z1, z2, z3, z5, z4⟩
    all_goals
      try rw [z0] at n0 hwz
      try rw [z1] at n1 hwz
      try rw [z2] at n2 hwz
      try rw [z3] at n3 hwz
      try rw [z5] at n5 hwz
      try rw [z4] at n4 hwz
      simp only [Bool.and_self, Bool.or_self, Bool.true_and, Bool.false_and, Bool.and_true, Bool.and_false, Bool.true_or, Bool.false_or, Bool.or_true, Bool.or_false] at hwz
      subst hwz
      simp only [Bool.not_false, Bool.not_true, if_true, if_false, Bool.false_eq_true, reduceIte] at hr n0 n1 n2 n3 n4 n5
      go_wp2_with fail
      first
        | (go_meet; exact ⟨(Kept.alloc (Kept.refl (fun _ => False) _) _).blk (fun h => h) hb2, hK2.alloc _, hr⟩)
        | (subst hr; go_ret; exact ⟨rfl, hK2.alloc _⟩)
  case rest =>
  clear hb1 hK1 hb2 hK2 HR HWH HX HWI
  obtain ⟨hb1, hK1, hr⟩ := hcut
  subst hr
  have hrc := HRC.out
  unfold restR at hrc
  have hl1 := hb1.lt
  have x0 := hb1.cell 0
  have x1 := hb1.cell 1
  have x2 := hb1.cell 2
  have x3 := hb1.cell 3
  have x4 := hb1.cell 4
  generalize hhe : helperR x = he at *
  generalize hna : namesR x = na at *
  clear hhe hna
  have hch : he = false ∨ he = true ∧ decide (x.imm < 1) = true ∨ he = true ∧ decide (x.imm < 1) = false ∧ decide (28 < x.imm) = true ∨ he = true ∧ decide (x.imm < 1) = false ∧ decide (28 < x.imm) = false := by
    cases he <;> cases decide (x.imm < 1) <;> cases decide (28 < x.imm) <;> simp
  rcases hch with rfl | ⟨rfl, q2⟩ | ⟨rfl, q2, q3⟩ | ⟨rfl, q2, q3⟩
  all_goals
    try rw [q2] at hrc
    try rw [q3] at hrc
    simp only [Bool.not_false, Bool.not_true, Bool.true_and, Bool.false_and, Bool.and_true, Bool.and_false, Bool.true_or, Bool.false_or, Bool.or_true, Bool.or_false, if_true, if_false, Bool.false_eq_true, reduceIte] at hrc
    go_wp2_with fail
    refine (HHE.out _).mono ?_
    rintro e w2 ⟨rfl, hk2⟩
    have hb2 := hk2.blk (fun h => h) hb1
    have hK2 := hK1.trans hk2 (fun _ _ h => h)
    clear x0 x1 x2 x3 x4
    have x0 := hb2.cell 0
    have x1 := hb2.cell 1
    have x2 := hb2.cell 2
    have x3 := hb2.cell 3
    have x4 := hb2.cell 4
    first
      | (subst hrc
         go_wp2_with fail
         go_ret
         exact ⟨rfl, hK2⟩)
      | (have HRD := Lib.hid hrc
         clear hrc
         go_wp2_with fail
         refine (HNA.out _).mono ?_
         rintro e w3 ⟨rfl, hk3⟩
         have hb3 := hk3.blk (fun h => h) hb2
         have hK3 := hK2.trans hk3 (fun _ _ h => h)
         clear x0 x1 x2 x3 x4
         have x4 := hb3.cell 4
         have hrc := HRD.out
         clear HRD
         cases na
         all_goals
           simp only [if_true, if_false, Bool.false_eq_true, reduceIte] at hrc
         case false =>
           subst hrc
           go_wp2_with fail
           go_ret
           exact ⟨rfl, hK3⟩
         case true =>
           unfold callR at hrc
           have hrng : toR l.length i x.imm < 1 ∨ ∃ n : Nat, toR l.length i x.imm = n ∧ 1 ≤ n ∧ n < l.length := by
             unfold toR
             split
             · left; omega
             · split
               · left; omega
               · by_cases h1 : (i : Int) + 1 + x.imm < 1
                 · left; exact h1
                 · right
                   exact ⟨((i : Int) + 1 + x.imm).toNat, by omega, by omega, by omega⟩
           generalize htt : toR l.length i x.imm = t at *
           have HTT := Lib.hid htt
           clear htt
           have HRC2 := Lib.hid hrc
           clear hrc
           rcases hrng with h1 | ⟨n, rfl, h1, h2⟩
           · have h1d : decide (t < 1) = true := decide_eq_true h1
             have hrc := HRC2.out
             rw [if_pos h1] at hrc
             subst hrc
             clear HRC2 h1
             go_wp2_with (go_at_call 59; refine (HTO.out _).mono ?_; rintro e w4 ⟨rfl, rfl⟩)
             go_ret
             exact ⟨rfl, hK3⟩
           · have h1d : decide ((n : Int) < 1) = false := decide_eq_false (by omega)
             have hrc := HRC2.out
             rw [if_neg (by omega), Int.toNat_natCast] at hrc
             obtain ⟨b, hb⟩ : ∃ b, (secL l)[n]? = some b := ⟨_, List.getElem?_eq_getElem (by rw [sec_len]; omega)⟩
             obtain ⟨sg, sc, rfl, hsl, hsg⟩ := Sl.some_ hS (by rw [List.length_map, sec_len]; omega)
             have d0 := Bls.cell (Sl.kept hK3 hS (fun _ _ h => h)) hb
             rw [List.length_map, sec_len] at *
             rw [hb] at hrc
             clear hb HRC2
             cases b
             all_goals
               simp only [Option.some.injEq, if_true, if_false, Bool.false_eq_true, reduceIte] at hrc
               subst hrc
               go_wp2_with (go_at_call 59; refine (HTO.out _).mono ?_; rintro e w4 ⟨rfl, rfl⟩)
               go_ret
               exact ⟨rfl, hK3⟩)

end Go.Proofs.YtdchmelgaljpfaaGreat
