import Derived.Test.YtlkgmcacbfoijaaEb
import Derived.Test.YtlkgmcacbfoijaaEc
set_option linter.unusedSimpArgs false
set_option linter.unusedVariables false
namespace Go.Proofs.Ytlkgmcacbfoijaa
open Go.RowKit

/-! ### flow.Depth's own question -/
/-- the memory of the question: B on stand the calls' cell, the numbers, their cell, the flag, the function -/
structure DM (bc dg bd br bf : Nat) (w wB : World) (cv : Value) (L : List (List Int)) (D : List Int) (rd : Bool) : Prop where
  c : Blk w bc 78 #[cv]
  d : Ints w (.slice (some ⟨dg, 0, none⟩) L.length L.length) D
  dc : Blk w (bd) 32 #[.slice (some ⟨dg, 0, none⟩) L.length L.length]
  r : Blk w (br) 4 #[.bool rd]
  f : Blk w (bf) 81 #[.func (.func 38) #[] #[.pointer (some ⟨br, 0, none⟩), .pointer (some ⟨bd, 0, none⟩), .pointer (some ⟨bc, 0, none⟩), .pointer (some ⟨bf, 0, none⟩)]]
  k : Kept (fun _ => False) wB w
  o : wB.heap.size ≤ bc ∧ bc < dg ∧ dg < bd ∧ bd < br ∧ br < bf
theorem DM.kept {bc dg bd br bf : Nat} {w w' wB : World} {cv : Value} {L : List (List Int)} {D : List Int} {rd : Bool} (h : DM bc dg bd br bf w wB cv L D rd) (hk : Kept (fun _ => False) w w') : DM bc dg bd br bf w' wB cv L D rd :=
  ⟨hk.blk id h.c, Sl.kept hk h.d (fun _ _ h => h), hk.blk id h.dc, hk.blk id h.r, hk.blk id h.f, h.k.trans hk (fun _ _ h => h), h.o⟩
/-- the flag is written -/
theorem DM.flag {bc dg bd br bf : Nat} {w wB : World} {cv : Value} {L : List (List Int)} {D : List Int} {rd : Bool} (h : DM bc dg bd br bf w wB cv L D rd) (b : Bool) : DM bc dg bd br bf (w.setCell ⟨br, 0, none⟩ (.bool b)) wB cv L D b :=
  ⟨h.c.far (show bc ≠ br from by have := h.o; omega) _, Sl.kept (Kept.setCell (F := fun k => k = br) (Kept.refl _ w) (p := ⟨br, 0, none⟩) (fun _ => rfl) _) h.d (fun g hg e => by have := h.o; have : dg = g := Option.some.inj hg; omega), h.dc.far (show bd ≠ br from by have := h.o; omega) _, h.r.set_ 0 _, h.f.far (show bf ≠ br from by have := h.o; omega) _, h.k.setCell (fun hlt => by have := h.o; have hlt : br < wB.heap.size := hlt; omega) _, h.o⟩
/-- one number is written -/
theorem DM.num {bc dg bd br bf : Nat} {w wB : World} {cv : Value} {L : List (List Int)} {D : List Int} {rd : Bool} (h : DM bc dg bd br bf w wB cv L D rd) {i : Nat} (hi : i < D.length) (x : Int) : DM bc dg bd br bf (w.setCell ⟨dg, i, none⟩ (.int .i64 x)) wB cv L (D.set i x) rd :=
  ⟨h.c.far (show bc ≠ dg from by have := h.o; omega) _, Ints.set h.d hi x, h.dc.far (show bd ≠ dg from by have := h.o; omega) _, h.r.far (show br ≠ dg from by have := h.o; omega) _, h.f.far (show bf ≠ dg from by have := h.o; omega) _, h.k.setCell (fun hlt => by have := h.o; have hlt : dg < wB.heap.size := hlt; omega) _, h.o⟩
set_option maxHeartbeats 8000000 in
set_option maxRecDepth 100000 in
theorem walk_ih (bc dg bd br bf : Nat) (wB : World) (cv : Value) (L : List (List Int)) (hR : RowsI wB cv L) (hIn : InL L) (hn : L.length ≤ 1000000) (hrl : ∀ js ∈ L, js.length ≤ 1000000) : ∀ (f i : Nat) (D : List Int) (rd : Bool) (w : World), zeros D < f → i < L.length → Bd L D → DM bc dg bd br bf w wB cv L D rd →
    Calls Try.prog 38 #[.int .i64 i, .pointer (some ⟨br, 0, none⟩), .pointer (some ⟨bd, 0, none⟩), .pointer (some ⟨bc, 0, none⟩), .pointer (some ⟨bf, 0, none⟩)] w fun e w' =>
      e = .returned (.int .i64 (wkG L f i (D, rd)).2) ∧ DM bc dg bd br bf w' wB cv L (wkG L f i (D, rd)).1.1 (wkG L f i (D, rd)).1.2 := by
  intro f
  induction f with
  | zero => exact fun i D rd w h => absurd h (Nat.not_lt_zero _)
  | succ f ih =>
  intro i D rd w hz hi hbd hM
  have hil : i < D.length := by rw [hbd.len]; exact hi
  obtain ⟨d, hd⟩ : ∃ d, D[i]? = some d := ⟨_, List.getElem?_eq_getElem hil⟩
  have hdg : D.getD i 0 = d := by rw [List.getD_eq_getElem?_getD, hd]; rfl
  have hdb := hbd.get i
  rw [hdg] at hdb
  obtain ⟨R, hRR⟩ : ∃ R, wkG L (f + 1) i (D, rd) = R := ⟨_, rfl⟩
  rw [hRR]
  rw [wkG_succ] at hRR
  rw [show (D, rd).1.getD i 0 = d from hdg] at hRR
  have c0 := hM.c.cell 0
  have c1 := hM.dc.cell 0
  have c2 := hM.r.cell 0
  have c3 := hM.f.cell 0
  have hdc := Ints.cell hM.d hd
  have l0 := hM.c.lt
  have l1 := Sl.lt hM.d _ rfl
  have l2 := hM.dc.lt
  have l3 := hM.r.lt
  have l4 := hM.f.lt
  have f2 := hM.r.frozen 0
  have f1 := Sl.frozen hM.d i
  have hord := hM.o
  have HM := Lib.hid hM
  have HIH := Lib.hid ih
  have HBD := Lib.hid hbd
  have HR0 := Lib.hid hRR
  have hdl : Hid (L.length = D.length) := Lib.hid hbd.len.symm
  clear hM ih hbd hRR hdg
  cases q : (rd || d == -1)
  case true =>
    have hR := HR0.out
    rw [if_pos q] at hR
    subst hR
    have HQ := Lib.hid q
    clear HR0
    cases rd
    case true =>
      clear q
      go_enter Try.func38, Try.ntmps38
      go_wp2_with fail
      go_ret
      exact ⟨rfl, HM.out.flag true⟩
    case false =>
      have q1 : (d == -1) = true := q
      clear q
      go_enter Try.func38, Try.ntmps38
      go_wp2_with fail
      go_ret
      exact ⟨rfl, HM.out.flag true⟩
  case false =>
  have hrd : rd = false := by cases rd with
    | true => cases q
    | false => rfl
  subst hrd
  have q1 : (d == -1) = false := q
  have HR1 := HR0.out
  rw [if_neg (by rw [q]; decide)] at HR1
  clear HR0 q
  by_cases hp : 0 < d
  case pos =>
    rw [if_pos hp] at HR1
    subst HR1
    have hpd : decide (0 < d) = true := decide_eq_true hp
    have hpd' : decide (d > 0) = true := decide_eq_true hp
    clear hp
    go_enter Try.func38, Try.ntmps38
    go_wp2_with fail
    go_ret
    exact ⟨rfl, HM.out.flag false⟩
  case neg =>
    rw [if_neg hp] at HR1
    have hpd : decide (0 < d) = false := decide_eq_false hp
    have hpd' : decide (d > 0) = false := decide_eq_false hp
    have HR1 := Lib.hid HR1
    obtain ⟨vals, hvl, hvs, hvr⟩ := hR.ex
    obtain ⟨u, hu⟩ : ∃ u, vals[i]? = some u := ⟨_, List.getElem?_eq_getElem (by omega)⟩
    obtain ⟨row, hrow⟩ : ∃ row, L[i]? = some row := ⟨_, List.getElem?_eq_getElem hi⟩
    have hrowI := hvr i u row hu hrow
    have hgrow : L.getD i [] = row := by rw [List.getD_eq_getElem?_getD, hrow]; rfl
    have hrlen := hrl row (List.mem_of_getElem? hrow)
    have hrin : ∀ j ∈ row, 0 ≤ j ∧ j < (L.length : Int) := hIn row (List.mem_of_getElem? hrow)
    obtain ⟨rg0, rc0, hcv⟩ := Sl.any hvs
    obtain ⟨ra, rc, hur⟩ := Sl.any hrowI
    rw [List.length_map] at hur
    obtain ⟨cg, ccap, hcv2, hcc, hcl⟩ := Sl.some_ hvs (by rw [List.length_map]; omega)
    rw [List.length_map, hvl] at hcv2
    subst hcv2
    clear hcv rg0 rc0
    have hvs0 := hvs
    have hcu : wB.cell? ⟨cg, i, none⟩ = some u := by
      have := Sl.cell hvs (i := i) (c := cell1 u) (by rw [List.getElem?_map, hu]; rfl) (k := 0) (by omega)
      simpa [cell1] using this
    have hcuw : w.cell? ⟨cg, i, none⟩ = some u := (HM.out.k.cell (p := ⟨cg, i, none⟩) hcl id).trans hcu
    have hclw := Nat.lt_of_lt_of_le hcl HM.out.k.size
    have hcne : cg ≠ br ∧ cg ≠ dg := by omega
    subst hur
    have hd0 : d = 0 := by have : d ≠ -1 := by simpa using q1
                           omega
    have HM1 := Lib.hid ((HM.out.flag false).num hil (-1))
    have hb1 : Bd L (D.set i (-1)) ∧ zeros (D.set i (-1)) + 1 = zeros D := by
      have hdg : D.getD i 0 = 0 := by rw [List.getD_eq_getElem?_getD, hd, hd0]; rfl
      have hzz : zeros (D.set i (-1)) + 1 = zeros D := by
        have ht := countP_set (fun d => decide (d = 0)) D i hil (-1)
        rw [hdg] at ht
        unfold zeros; simpa using ht
      have htt : told (D.set i (-1)) = told D := by
        have ht := countP_set (fun d => decide (0 < d)) D i hil (-1)
        rw [hdg] at ht
        unfold told; simpa using ht
      refine ⟨Bd.mk' (by rw [List.length_set]; exact HBD.out.len) (fun k _ => ?_), hzz⟩
      rw [getD_set _ _ _ hil, htt]
      split
      · exact ⟨Int.le_refl _, by omega⟩
      · exact HBD.out.get k
    obtain ⟨hb1, hz1⟩ := hb1
    have HB1 := Lib.hid (And.intro hb1 (show zeros (D.set i (-1)) < f by omega))
    rw [hgrow] at HR1
    have HROW := Lib.hid hrowI
    have HRIN := Lib.hid hrin
    have HVV := Lib.hid (And.intro hcu hcl)
    clear hb1 hz1 hrowI hrin hvs hvs0 hvr hu hrow hgrow hcu hcl HBD hp hvl hcc HM
    go_enter Try.func38, Try.ntmps38
    go_wp2_with fail
    obtain ⟨W, hW⟩ : ∃ W, wkL L f row ((D.set i (-1), false), 0) = W := ⟨_, rfl⟩
    rw [hW] at HR1
    have HW := Lib.hid hW
    have HTN : Hid (∀ (D : List Int), Bd L D → (told D : Int) ≤ 1000000) := Lib.hid (fun D hD => by have := told_le D; rw [hD.len] at this; omega)
    clear c0 c1 c2 c3 hdc l0 l1 l2 l3 l4 f1 f2 hcuw hclw hW hd
    go_loopw [7, 36] (fun mv jv wr => ∃ (j : Nat) (m : Int) (D1 : List Int) (rd1 : Bool), jv = .int .i64 j ∧ mv = .int .i64 m ∧ j ≤ row.length ∧ DM bc dg bd br bf wr wB (.slice (some ⟨cg, 0, none⟩) L.length ccap) L D1 rd1 ∧ wkL L f (row.drop j) ((D1, rd1), m) = W ∧ Bd L D1 ∧ zeros D1 < f ∧ 0 ≤ m ∧ m ≤ (told D1 : Int)) (fun _ jv _ => row.length - (intOf jv).toNat)
    case atStart => exact ⟨0, 0, _, _, rfl, rfl, by omega, HM1.out, HW.out, HB1.out.1, HB1.out.2, Int.le_refl _, Int.natCast_nonneg _⟩
    case round =>
      obtain ⟨j, m, D1, rd1, rfl, rfl, hj, hM, hw1, hb, hzf, hm0, hm1⟩ := hrel
      have hmb := HTN.out D1 hb
      have c3 := hM.f.cell 0
      have c1 := hM.dc.cell 0
      have l2 := hM.dc.lt
      have l1 := Sl.lt hM.d _ rfl
      have f1 := Sl.frozen hM.d i
      have hlen1 := hb.len
      obtain ⟨di, hdi⟩ : ∃ x, D1[i]? = some x := ⟨_, List.getElem?_eq_getElem (by omega)⟩
      have hdic := Ints.cell hM.d hdi
      have HM := Lib.hid hM
      have HW1 := Lib.hid hw1
      have HB := Lib.hid (And.intro hb hzf)
      clear hM hw1 hb hzf HM1 HW HB1
      by_cases hjl : j < row.length
      case neg =>
        obtain rfl : j = row.length := by omega
        have hdj : decide ((row.length : Int) < row.length) = false := decide_eq_false (by omega)
        have hWe : ((D1, rd1), m) = W := by have := HW1.out; rwa [List.drop_length] at this
        subst hWe
        have hR := HR1.out
        subst hR
        have hMf := Lib.hid (HM.out.num (i := i) (by omega) (m + 1))
        go_wp2_with fail
        go_ret
        exact ⟨rfl, hMf.out⟩
      case pos =>
        have hdj : decide ((j : Int) < row.length) = true := decide_eq_true (by omega)
        obtain ⟨y, hy⟩ : ∃ y, row[j]? = some y := ⟨_, List.getElem?_eq_getElem hjl⟩
        have hyr := HRIN.out y (List.mem_of_getElem? hy)
        obtain ⟨yn, rfl⟩ : ∃ n : Nat, y = n := ⟨y.toNat, by omega⟩
        have hdrop : row.drop j = (yn : Int) :: row.drop (j + 1) := by
          obtain ⟨hj', e⟩ := List.getElem?_eq_some_iff.1 hy
          rw [← e]
          exact List.drop_eq_getElem_cons hj'
        obtain ⟨sg, scap, hsv, hscap, hsgl⟩ := Sl.some_ (Sl.kept HM.out.k HROW.out (fun _ _ h => h)) (by rw [List.length_map]; omega)
        rw [List.length_map] at hsv
        cases hsv
        have hyc := Ints.cell (Sl.kept HM.out.k HROW.out (fun _ _ h => h)) hy
        have HC := Lib.hid (HIH.out yn D1 rd1 wr HB.out.2 (by omega) HB.out.1 HM.out)
        have hst := wk_step hIn f yn (D1, rd1) (by omega) HB.out.1
        have HN : Hid (wkL L f (row.drop (j + 1)) ((wkG L f yn (D1, rd1)).1, max m (wkG L f yn (D1, rd1)).2) = W) := Lib.hid (by
          have := HW1.out
          rw [hdrop, wkL_cons] at this
          exact this)
        obtain ⟨hstep, hr0, hr1⟩ := hst
        have hrb := HTN.out _ hstep.bd
        have hto : told D1 ≤ told (wkG L f yn (D1, rd1)).1.1 := hstep.told
        have HB2 := Lib.hid (And.intro hstep.bd (show zeros (wkG L f yn (D1, rd1)).1.1 < f from Nat.lt_of_le_of_lt hstep.zr HB.out.2))
        clear HW1 hdrop hy hstep hdi hdic
        generalize hrr : wkG L f yn (D1, rd1) = rr at *
        obtain ⟨⟨D2, rd2⟩, r2⟩ := rr
        clear hrr
        go_wp2_with fail
        refine HC.out.mono ?_
        rintro e w8 ⟨rfl, hM8⟩
        have HM8 := Lib.hid hM8
        clear hM8 HC HM
        go_wp2_with fail
        go_roundw
        case rel => exact ⟨j + 1, max m r2, D2, rd2, by simp, by simp, by omega, HM8.out, HN.out, HB2.out.1, HB2.out.2, by omega, by omega⟩
        case measure => (simp [intOf]; omega)

end Go.Proofs.Ytlkgmcacbfoijaa
