import Derived.Test.YtdchmelgaljpfaaGreatJe
import Derived.Outline
import Derived.Deep.DeepCutAuto
import Derived.Deep.CutBlock
set_option linter.unusedSimpArgs false
set_option linter.unusedVariables false
namespace Go.Proofs.YtdchmelgaljpfaaGreat
open Go.RowKit

/-! ### wrong -/
def callC (l : List In) (t : Int) : Int := if t < 1 then 14 else if (l.length : Int) ≤ t then 14 else if (secL l)[t.toNat]? = some true then 14 else 0
def restC (l : List In) (i : Nat) (x : In) : Int := if isCallB x = true then callC l ((i : Int) + 1 + x.imm) else if (x.op == 133 && (decide (x.imm < 1) || decide (28 < x.imm))) = true then 14 else 0
def wrongC (l : List In) (i : Nat) (x : In) : Int := if knownB x = false then 11 else if ((decide (10 < x.dst) || decide (10 < x.src)) || (x.dst == 10 && writesB x)) = true then 12
  else if (x.op == 24 && !wholeB l i) = true then 13 else restC l i x
set_option maxHeartbeats 8000000 in
set_option maxRecDepth 100000 in
theorem wrong_any (l : List In) (a : Option Addr) (c i : Nat) (x : In) (sv : Value) (w : World) (h : Ins w (.slice a l.length c) l) (hok : InsOk l) (hx : l[i]? = some x) (hS : Bls w sv (secL l)) :
    Calls Tryz.prog 107 #[.slice a l.length c, .int .i64 i, sv] w fun e w' => e = .returned (.int .i64 (wrongC l i x)) ∧ Kept (fun _ => False) w w' := by
  have hlen := hok.len
  have hi := (List.getElem?_eq_some_iff.1 hx).1
  have hxo := hok.at_ hx
  have him := hxo.imm
  have HKN := Lib.hid (fun W => known1_any x W hxo)
  have HWR := Lib.hid (fun W => writes_any x W hxo)
  have HWH := Lib.hid (fun W hW => whole_any l a c i x W hW hok hx)
  have HCA := Lib.hid (fun W hW => calls_any l a c i x W hW hok hx)
  have HINS := Lib.hid (fun (W : World) (hk : Kept (fun _ => False) w W) => h.kept hk)
  obtain ⟨r, hr⟩ : ∃ r, wrongC l i x = r := ⟨_, rfl⟩
  rw [hr]
  unfold wrongC at hr
  generalize hrc : restC l i x = rc at hr
  generalize knownB x = kn at *
  generalize writesB x = wr at *
  generalize wholeB l i = wh at *
  obtain ⟨g, off, rfl, hg, c0, c1, c2, c3, c4⟩ := h.at_ hx
  have HRC := Lib.hid hrc
  clear hrc h hok hx hxo
  have hBn := Blk.new w 75 (inVals x)
  have hKn : Kept (fun _ => False) w (w.alloc (.cells (inVals x) 75)) := (Kept.refl _ w).alloc _
  go_enter Tryz.func107, Tryz.ntmps107
  go_upto_block 0 with fail
  go_cut [14] (fun _ wx => Blk wx w.heap.size 75 (inVals x) ∧ Kept (fun _ => False) w wx ∧ r = rc)
  case first =>
    as_aux_lemma =>
    go_wp2_with fail
    refine (HKN.out _).mono ?_
    rintro e w1 ⟨rfl, hk1⟩
    have hb1 := hk1.blk (fun h => h) hBn
    have hK1 := hKn.trans hk1 (fun _ _ h => h)
    clear hBn hKn hk1 HKN
    cases kn
    case false =>
      simp only [reduceIte] at hr
      subst hr
      go_wp2_with fail
      go_ret
      exact ⟨rfl, hK1⟩
    case true =>
    simp only [Bool.true_eq_false, if_false] at hr
    have x0 := hb1.cell 0
    have x1 := hb1.cell 1
    have x2 := hb1.cell 2
    have x3 := hb1.cell 3
    have x4 := hb1.cell 4
    have hRG : (decide (10 < x.dst) = true ∨ decide (10 < x.dst) = false ∧ decide (10 < x.src) = true) ∨ decide (10 < x.dst) = false ∧ decide (10 < x.src) = false := by
      cases decide (10 < x.dst) <;> cases decide (10 < x.src) <;> simp
    rcases hRG with (r1 | ⟨r1, r2⟩) | ⟨r1, r2⟩
    case inl.inl =>
      simp only [r1, Bool.not_false, Bool.not_true, Bool.true_and, Bool.false_and, Bool.and_true, Bool.and_false, Bool.true_or, Bool.false_or, Bool.or_true, Bool.or_false, if_true, if_false, Bool.false_eq_true, reduceIte] at hr
      subst hr
      go_wp2_with fail
      go_ret
      exact ⟨rfl, hK1⟩
    case inl.inr =>
      simp only [r1, r2, Bool.not_false, Bool.not_true, Bool.true_and, Bool.false_and, Bool.and_true, Bool.and_false, Bool.true_or, Bool.false_or, Bool.or_true, Bool.or_false, if_true, if_false, Bool.false_eq_true, reduceIte] at hr
      subst hr
      go_wp2_with fail
      go_ret
      exact ⟨rfl, hK1⟩
    case inr =>
    simp only [r1, r2, Bool.not_false, Bool.not_true, Bool.true_and, Bool.false_and, Bool.and_true, Bool.and_false, Bool.true_or, Bool.false_or, Bool.or_true, Bool.or_false, if_true, if_false, Bool.false_eq_true, reduceIte] at hr
    cases r3 : (x.dst == 10)
    case false =>
      simp only [r3, Bool.not_false, Bool.not_true, Bool.true_and, Bool.false_and, Bool.and_true, Bool.and_false, Bool.true_or, Bool.false_or, Bool.or_true, Bool.or_false, if_true, if_false, Bool.false_eq_true, reduceIte] at hr
      cases r4 : (x.op == 24)
      case false =>
        simp only [r4, Bool.not_false, Bool.not_true, Bool.true_and, Bool.false_and, Bool.and_true, Bool.and_false, Bool.true_or, Bool.false_or, Bool.or_true, Bool.or_false, if_true, if_false, Bool.false_eq_true, reduceIte] at hr
        subst hr
        go_wp2_with fail
        go_meet
        exact ⟨hb1, hK1, trivial⟩
      case true =>
        simp only [r4, Bool.not_false, Bool.not_true, Bool.true_and, Bool.false_and, Bool.and_true, Bool.and_false, Bool.true_or, Bool.false_or, Bool.or_true, Bool.or_false, if_true, if_false, Bool.false_eq_true, reduceIte] at hr
        go_wp2_with fail
        refine (HWH.out _ (HINS.out _ hK1)).mono ?_
        rintro e w2 ⟨rfl, hk2⟩
        have hK2 := hK1.trans hk2 (fun _ _ h => h)
        have hb2 := hk2.blk (fun h => h) hb1
        cases wh
        all_goals
          simp only [Bool.not_false, Bool.not_true, Bool.true_and, Bool.false_and, Bool.and_true, Bool.and_false, Bool.true_or, Bool.false_or, Bool.or_true, Bool.or_false, if_true, if_false, Bool.false_eq_true, reduceIte] at hr
          subst hr
          go_wp2_with fail
          first
            | (go_ret; exact ⟨rfl, hK2⟩)
            | (go_meet; exact ⟨hb2, hK2, trivial⟩)
    case true =>
      simp only [r3, Bool.not_false, Bool.not_true, Bool.true_and, Bool.false_and, Bool.and_true, Bool.and_false, Bool.true_or, Bool.false_or, Bool.or_true, Bool.or_false, if_true, if_false, Bool.false_eq_true, reduceIte] at hr
      go_wp2_with fail
      refine (HWR.out _).mono ?_
      rintro e w2 ⟨rfl, hk2⟩
      have hK2 := hK1.trans hk2 (fun _ _ h => h)
      have hb2 := hk2.blk (fun h => h) hb1
      clear hk2 hK1 hb1 x0 x1 x2 x3 x4
      have x0 := hb2.cell 0
      have x1 := hb2.cell 1
      have x2 := hb2.cell 2
      have x3 := hb2.cell 3
      have x4 := hb2.cell 4
      cases wr
      case true =>
        simp only [Bool.not_false, Bool.not_true, Bool.true_and, Bool.false_and, Bool.and_true, Bool.and_false, Bool.true_or, Bool.false_or, Bool.or_true, Bool.or_false, if_true, if_false, Bool.false_eq_true, reduceIte] at hr
        subst hr
        go_wp2_with fail
        go_ret
        exact ⟨rfl, hK2⟩
      case false =>
      simp only [Bool.not_false, Bool.not_true, Bool.true_and, Bool.false_and, Bool.and_true, Bool.and_false, Bool.true_or, Bool.false_or, Bool.or_true, Bool.or_false, if_true, if_false, Bool.false_eq_true, reduceIte] at hr
      cases r4 : (x.op == 24)
      case false =>
        simp only [r4, Bool.not_false, Bool.not_true, Bool.true_and, Bool.false_and, Bool.and_true, Bool.and_false, Bool.true_or, Bool.false_or, Bool.or_true, Bool.or_false, if_true, if_false, Bool.false_eq_true, reduceIte] at hr
        subst hr
        go_wp2_with fail
        go_meet
        exact ⟨hb2, hK2, trivial⟩
      case true =>
        simp only [r4, Bool.not_false, Bool.not_true, Bool.true_and, Bool.false_and, Bool.and_true, Bool.and_false, Bool.true_or, Bool.false_or, Bool.or_true, Bool.or_false, if_true, if_false, Bool.false_eq_true, reduceIte] at hr
        go_wp2_with fail
        refine (HWH.out _ (HINS.out _ hK2)).mono ?_
        rintro e w3 ⟨rfl, hk3⟩
        have hK3 := hK2.trans hk3 (fun _ _ h => h)
        have hb3 := hk3.blk (fun h => h) hb2
        cases wh
        all_goals
          simp only [Bool.not_false, Bool.not_true, Bool.true_and, Bool.false_and, Bool.and_true, Bool.and_false, Bool.true_or, Bool.false_or, Bool.or_true, Bool.or_false, if_true, if_false, Bool.false_eq_true, reduceIte] at hr
          subst hr
          go_wp2_with fail
          first
            | (go_ret; exact ⟨rfl, hK3⟩)
            | (go_meet; exact ⟨hb3, hK3, trivial⟩)
  case rest =>
  obtain ⟨hb1, hK1, rfl⟩ := hcut
  clear hr hBn hKn HKN HWR HWH
  have hrc := HRC.out
  unfold restC at hrc
  generalize isCallB x = ic at *
  have x0 := hb1.cell 0
  have x4 := hb1.cell 4
  go_wp2_with fail
  refine (HCA.out _ (HINS.out _ hK1)).mono ?_
  rintro e w2 ⟨rfl, hk2⟩
  have hK2 := hK1.trans hk2 (fun _ _ h => h)
  have hb2 := hk2.blk (fun h => h) hb1
  clear x0 x4 hb1
  have x0 := hb2.cell 0
  have x4 := hb2.cell 4
  cases ic
  case true =>
    simp only [if_true] at hrc
    unfold callC at hrc
    generalize ht : (i : Int) + 1 + x.imm = t at *
    by_cases t1 : t < 1
    · rw [if_pos t1] at hrc
      have t1d : decide (t < 1) = true := decide_eq_true t1
      clear t1
      subst hrc
      go_wp2_with fail
      go_ret
      exact ⟨rfl, hK2⟩
    rw [if_neg t1] at hrc
    have t1d : decide (t < 1) = false := decide_eq_false t1
    by_cases t2 : (l.length : Int) ≤ t
    · rw [if_pos t2] at hrc
      have t2d : decide ((l.length : Int) ≤ t) = true := decide_eq_true t2
      clear t1 t2
      subst hrc
      go_wp2_with fail
      go_ret
      exact ⟨rfl, hK2⟩
    rw [if_neg t2] at hrc
    have t2d : decide ((l.length : Int) ≤ t) = false := decide_eq_false t2
    obtain ⟨n, rfl⟩ : ∃ n : Nat, t = n := ⟨t.toNat, by omega⟩
    rw [Int.toNat_natCast] at hrc
    have hn : n < l.length := by omega
    obtain ⟨b, hb⟩ : ∃ b, (secL l)[n]? = some b := ⟨_, List.getElem?_eq_getElem (by rw [sec_len]; omega)⟩
    obtain ⟨sg, sc, rfl, hsl, hsg⟩ := Sl.some_ hS (by rw [List.length_map, sec_len]; omega)
    have d0 := Bls.cell (Sl.kept hK2 hS (fun _ _ h => h)) hb
    rw [List.length_map, sec_len] at *
    rw [hb] at hrc
    clear t1 t2 hb
    cases b
    all_goals
      simp only [Option.some.injEq, if_true, if_false, Bool.false_eq_true, reduceIte] at hrc
      subst hrc
      go_wp2_with fail
      go_ret
      exact ⟨rfl, hK2⟩
  case false =>
    simp only [Bool.false_eq_true, if_false] at hrc
    cases q1 : (x.op == 133) <;> cases q2 : decide (x.imm < 1) <;> cases q3 : decide (28 < x.imm)
    all_goals
      simp only [q1, q2, q3, Bool.not_false, Bool.not_true, Bool.true_and, Bool.false_and, Bool.and_true, Bool.and_false, Bool.true_or, Bool.false_or, Bool.or_true, Bool.or_false, if_true, if_false, Bool.false_eq_true, reduceIte] at hrc
      subst hrc
      go_wp2_with fail
      go_ret
      exact ⟨rfl, hK2⟩

end Go.Proofs.YtdchmelgaljpfaaGreat
