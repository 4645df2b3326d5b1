import Derived.Test.YtlkgmcacbfoijaaGreatZaa
import Derived.Test.YtlkgmcacbfoijaaGreatEcx
set_option linter.unusedSimpArgs false
set_option linter.unusedVariables false
namespace Go.Proofs.YtlkgmcacbfoijaaGreat
open Go.RowKit

/-! ### flow.Depth's own question -/
/-- the memory of the question: B on stand the calls' cell, the numbers, their cell, the flag, the function -/
structure DM (bc dg bd br bf : Nat) (w wB : World) (cv : Value) (L : List (List Int)) (D : List Int) (rd : Bool) : Prop where
  c : Blk w bc 92 #[cv]
  d : Ints w (.slice (some ⟨dg, 0, none⟩) L.length L.length) D
  dc : Blk w (bd) 28 #[.slice (some ⟨dg, 0, none⟩) L.length L.length]
  r : Blk w (br) 4 #[.bool rd]
  f : Blk w (bf) 95 #[.func (.func 42) #[] #[.pointer (some ⟨br, 0, none⟩), .pointer (some ⟨bd, 0, none⟩), .pointer (some ⟨bc, 0, none⟩), .pointer (some ⟨bf, 0, none⟩)]]
  k : Kept (fun _ => False) wB w
  o : wB.heap.size ≤ bc ∧ bc < dg ∧ dg < bd ∧ bd < br ∧ br < bf
theorem DM.kept {bc dg bd br bf : Nat} {w w' wB : World} {cv : Value} {L : List (List Int)} {D : List Int} {rd : Bool} (h : DM bc dg bd br bf w wB cv L D rd) (hk : Kept (fun _ => False) w w') : DM bc dg bd br bf w' wB cv L D rd :=
  ⟨hk.blk id h.c, Sl.kept hk h.d (fun _ _ h => h), hk.blk id h.dc, hk.blk id h.r, hk.blk id h.f, h.k.trans hk (fun _ _ h => h), h.o⟩
/-- the flag is written -/
theorem DM.flag {bc dg bd br bf : Nat} {w wB : World} {cv : Value} {L : List (List Int)} {D : List Int} {rd : Bool} (h : DM bc dg bd br bf w wB cv L D rd) (b : Bool) : DM bc dg bd br bf (w.setCell ⟨br, 0, none⟩ (.bool b)) wB cv L D b :=
  ⟨h.c.far (show bc ≠ br from by have := h.o; omega) _, Sl.kept (Kept.setCell (F := fun k => k = br) (Kept.refl _ w) (p := ⟨br, 0, none⟩) (fun _ => rfl) _) h.d (fun g hg e => by have := h.o; have : dg = g := Option.some.inj hg; omega), h.dc.far (show bd ≠ br from by have := h.o; omega) _, h.r.set_ 0 _, h.f.far (show bf ≠ br from by have := h.o; omega) _, h.k.setCell (fun hlt => by have := h.o; have hlt : br < wB.heap.size := hlt; omega) _, h.o⟩
/-- one number is written -/
theorem DM.num {bc dg bd br bf : Nat} {w wB : World} {cv : Value} {L : List (List Int)} {D : List Int} {rd : Bool} (h : DM bc dg bd br bf w wB cv L D rd) {i : Nat} (hi : i < D.length) (x : Int) : DM bc dg bd br bf (w.setCell ⟨dg, i, none⟩ (.int .i64 x)) wB cv L (D.set i x) rd :=
  ⟨h.c.far (show bc ≠ dg from by have := h.o; omega) _, Ints.set h.d hi x, h.dc.far (show bd ≠ dg from by have := h.o; omega) _, h.r.far (show br ≠ dg from by have := h.o; omega) _, h.f.far (show bf ≠ dg from by have := h.o; omega) _, h.k.setCell (fun hlt => by have := h.o; have hlt : dg < wB.heap.size := hlt; omega) _, h.o⟩
set_option maxHeartbeats 8000000 in
set_option maxRecDepth 100000 in
theorem walk_ih (bc dg bd br bf : Nat) (wB : World) (cv : Value) (L : List (List Int)) (hR : RowsI wB cv L) (hIn : InL L) (hn : L.length ≤ 1000000) (hrl : ∀ js ∈ L, js.length ≤ 1000000) : ∀ (f i : Nat) (D : List Int) (rd : Bool) (w : World), zeros D < f → i < L.length → Bd L D → DM bc dg bd br bf w wB cv L D rd →
    Calls Tryz.prog 42 #[.int .i64 i, .pointer (some ⟨br, 0, none⟩), .pointer (some ⟨bd, 0, none⟩), .pointer (some ⟨bc, 0, none⟩), .pointer (some ⟨bf, 0, none⟩)] w fun e w' =>
      e = .returned (.int .i64 (wkG L f i (D, rd)).2) ∧ DM bc dg bd br bf w' wB cv L (wkG L f i (D, rd)).1.1 (wkG L f i (D, rd)).1.2 := by
  intro f
  induction f with
  | zero => exact fun i D rd w h => absurd h (Nat.not_lt_zero _)
  | succ f ih =>
  intro i D rd w hz hi hbd hM
  have hil : i < D.length := by rw [hbd.len]; exact hi
  obtain ⟨d, hd⟩ : ∃ d, D[i]? = some d := ⟨_, List.getElem?_eq_getElem hil⟩
  have hdg : D.getD i 0 = d := by rw [List.getD_eq_getElem?_getD, hd]; rfl
  have hdb := hbd.get i
  rw [hdg] at hdb
  obtain ⟨R, hRR⟩ : ∃ R, wkG L (f + 1) i (D, rd) = R := ⟨_, rfl⟩
  rw [hRR]
  rw [wkG_succ] at hRR
  rw [show (D, rd).1.getD i 0 = d from hdg] at hRR
  have c0 := hM.c.cell 0
  have c1 := hM.dc.cell 0
  have c2 := hM.r.cell 0
  have c3 := hM.f.cell 0
  have hdc := Ints.cell hM.d hd
  have l0 := hM.c.lt
  have l1 := Sl.lt hM.d _ rfl
  have l2 := hM.dc.lt
  have l3 := hM.r.lt
  have l4 := hM.f.lt
  have f2 := hM.r.frozen 0
  have f1 := Sl.frozen hM.d i
  have hord := hM.o
  have HM := Lib.hid hM
  have HIH := Lib.hid ih
  have HBD := Lib.hid hbd
  have HR0 := Lib.hid hRR
  have hdl : Hid (L.length = D.length) := Lib.hid hbd.len.symm
  clear hM ih hbd hRR hdg
  cases q : (rd || d == -1)
  case true =>
    have hR := HR0.out
    rw [if_pos q] at hR
    subst hR
    have HQ := Lib.hid q
    clear HR0
    cases rd
    case true =>
      clear q
      go_enter Tryz.func42, Tryz.ntmps42
      go_wp2_with fail
      go_ret
      exact ⟨rfl, HM.out.flag true⟩
    case false =>
      have q1 : (d == -1) = true := q
      clear q
      go_enter Tryz.func42, Tryz.ntmps42
      go_wp2_with fail
      go_ret
      exact ⟨rfl, HM.out.flag true⟩
  case false =>
  have hrd : rd = false := by cases rd with
    | true => cases q
    | false => rfl
  subst hrd
  have q1 : (d == -1) = false := q
  have HR1 := HR0.out
  rw [if_neg (by rw [q]; decide)] at HR1
  clear HR0 q
  by_cases hp : 0 < d
  case pos =>
    rw [if_pos hp] at HR1
    subst HR1
    have hpd : decide (0 < d) = true := decide_eq_true hp
    have hpd' : decide (d > 0) = true := decide_eq_true hp
    clear hp
    go_enter Tryz.func42, Tryz.ntmps42
    go_wp2_with fail
    go_ret
    exact ⟨rfl, HM.out.flag false⟩
  case neg =>
    rw [if_neg hp] at HR1
    have hpd : decide (0 < d) = false := decide_eq_false hp
    have hpd' : decide (d > 0) = false := decide_eq_false hp
    have HR1 := Lib.hid HR1
    obtain ⟨vals, hvl, hvs, hvr⟩ := hR.ex
    obtain ⟨u, hu⟩ : ∃ u, vals[i]? = some u := ⟨_, List.getElem?_eq_getElem (by omega)⟩
    obtain ⟨row, hrow⟩ : ∃ row, L[i]? = some row := ⟨_, List.getElem?_eq_getElem hi⟩
    have hrowI := hvr i u row hu hrow
    have hgrow : L.getD i [] = row := by rw [List.getD_eq_getElem?_getD, hrow]; rfl
    have hrlen := hrl row (List.mem_of_getElem? hrow)
    have hrin : ∀ j ∈ row, 0 ≤ j ∧ j < (L.length : Int) := hIn row (List.mem_of_getElem? hrow)
    obtain ⟨rg0, rc0, hcv⟩ := Sl.any hvs
    obtain ⟨ra, rc, hur⟩ := Sl.any hrowI
    rw [List.length_map] at hur
    obtain ⟨cg, ccap, hcv2, hcc, hcl⟩ := Sl.some_ hvs (by rw [List.length_map]; omega)
    rw [List.length_map, hvl] at hcv2
    subst hcv2
    clear hcv rg0 rc0
    have hvs0 := hvs
    have hcu : wB.cell? ⟨cg, i, none⟩ = some u := by
      have := Sl.cell hvs (i := i) (c := cell1 u) (by rw [List.getElem?_map, hu]; rfl) (k := 0) (by omega)
      simpa [cell1] using this
    have hcuw : w.cell? ⟨cg, i, none⟩ = some u := (HM.out.k.cell (p := ⟨cg, i, none⟩) hcl id).trans hcu
    have hclw := Nat.lt_of_lt_of_le hcl HM.out.k.size
    have hcne : cg ≠ br ∧ cg ≠ dg := by omega
    subst hur
    have hd0 : d = 0 := by have : d ≠ -1 := by simpa using q1
                           omega
    have HM1 := Lib.hid ((HM.out.flag false).num hil (-1))
    have hb1 : Bd L (D.set i (-1)) ∧ zeros (D.set i (-1)) + 1 = zeros D := by
      have hdg : D.getD i 0 = 0 := by rw [List.getD_eq_getElem?_getD, hd, hd0]; rfl
      have hzz : zeros (D.set i (-1)) + 1 = zeros D := by
        have ht := countP_set (fun d => decide (d = 0)) D i hil (-1)
        rw [hdg] at ht
        unfold zeros; simpa using ht
      have htt : told (D.set i (-1)) = told D := by
        have ht := countP_set (fun d => decide (0 < d)) D i hil (-1)
        rw [hdg] at ht
        unfold told; simpa using ht
      refine ⟨Bd.mk' (by rw [List.length_set]; exact HBD.out.len) (fun k _ => ?_), hzz⟩
      rw [getD_set _ _ _ hil, htt]
      split
      · exact ⟨Int.le_refl _, by omega⟩
      · exact HBD.out.get k
    obtain ⟨hb1, hz1⟩ := hb1
    have HB1 := Lib.hid (And.intro hb1 (show zeros (D.set i (-1)) < f by omega))
    rw [hgrow] at HR1
    have HROW := Lib.hid hrowI
    have HRIN := Lib.hid hrin
    have HVV := Lib.hid (And.intro hcu hcl)
    clear hb1 hz1 hrowI hrin hvs hvs0 hvr hu hrow hgrow hcu hcl HBD hp hvl hcc HM
    go_enter Tryz.func42, Tryz.ntmps42
    go_wp2_with fail
    obtain ⟨W, hW⟩ : ∃ W, wkL L f row ((D.set i (-1), false), 0) = W := ⟨_, rfl⟩
    rw [hW] at HR1
    have HW := Lib.hid hW
    have HTN : Hid (∀ (D : List Int), Bd L D → (told D : Int) ≤ 1000000) := Lib.hid (fun D hD => by have := told_le D; rw [hD.len] at this; omega)
    clear c0 c1 c2 c3 hdc l0 l1 l2 l3 l4 f1 f2 hcuw hclw hW hd
    go_loopw [7, 36] (fun mv jv wr => ∃ (j : Nat) (m : Int) (D1 : List Int) (rd1 : Bool), jv = .int .i64 j ∧ mv = .int .i64 m ∧ j ≤ row.length ∧ DM bc dg bd br bf wr wB (.slice (some ⟨cg, 0, none⟩) L.length ccap) L D1 rd1 ∧ wkL L f (row.drop j) ((D1, rd1), m) = W ∧ Bd L D1 ∧ zeros D1 < f ∧ 0 ≤ m ∧ m ≤ (told D1 : Int)) (fun _ jv _ => row.length - (intOf jv).toNat)
    case atStart => exact ⟨0, 0, _, _, rfl, rfl, by omega, HM1.out, HW.out, HB1.out.1, HB1.out.2, Int.le_refl _, Int.natCast_nonneg _⟩
    case round =>
      obtain ⟨j, m, D1, rd1, rfl, rfl, hj, hM, hw1, hb, hzf, hm0, hm1⟩ := hrel
      have hmb := HTN.out D1 hb
      have c3 := hM.f.cell 0
      have c1 := hM.dc.cell 0
      have l2 := hM.dc.lt
      have l1 := Sl.lt hM.d _ rfl
      have f1 := Sl.frozen hM.d i
      have hlen1 := hb.len
      obtain ⟨di, hdi⟩ : ∃ x, D1[i]? = some x := ⟨_, List.getElem?_eq_getElem (by omega)⟩
      have hdic := Ints.cell hM.d hdi
      have HM := Lib.hid hM
      have HW1 := Lib.hid hw1
      have HB := Lib.hid (And.intro hb hzf)
      clear hM hw1 hb hzf HM1 HW HB1
      by_cases hjl : j < row.length
      case neg =>
        obtain rfl : j = row.length := by omega
        have hdj : decide ((row.length : Int) < row.length) = false := decide_eq_false (by omega)
        have hWe : ((D1, rd1), m) = W := by have := HW1.out; rwa [List.drop_length] at this
        subst hWe
        have hR := HR1.out
        subst hR
        have hMf := Lib.hid (HM.out.num (i := i) (by omega) (m + 1))
        go_wp2_with fail
        go_ret
        exact ⟨rfl, hMf.out⟩
      case pos =>
        have hdj : decide ((j : Int) < row.length) = true := decide_eq_true (by omega)
        obtain ⟨y, hy⟩ : ∃ y, row[j]? = some y := ⟨_, List.getElem?_eq_getElem hjl⟩
        have hyr := HRIN.out y (List.mem_of_getElem? hy)
        obtain ⟨yn, rfl⟩ : ∃ n : Nat, y = n := ⟨y.toNat, by omega⟩
        have hdrop : row.drop j = (yn : Int) :: row.drop (j + 1) := by
          obtain ⟨hj', e⟩ := List.getElem?_eq_some_iff.1 hy
          rw [← e]
          exact List.drop_eq_getElem_cons hj'
        obtain ⟨sg, scap, hsv, hscap, hsgl⟩ := Sl.some_ (Sl.kept HM.out.k HROW.out (fun _ _ h => h)) (by rw [List.length_map]; omega)
        rw [List.length_map] at hsv
        cases hsv
        have hyc := Ints.cell (Sl.kept HM.out.k HROW.out (fun _ _ h => h)) hy
        have HC := Lib.hid (HIH.out yn D1 rd1 wr HB.out.2 (by omega) HB.out.1 HM.out)
        have hst := wk_step hIn f yn (D1, rd1) (by omega) HB.out.1
        have HN : Hid (wkL L f (row.drop (j + 1)) ((wkG L f yn (D1, rd1)).1, max m (wkG L f yn (D1, rd1)).2) = W) := Lib.hid (by
          have := HW1.out
          rw [hdrop, wkL_cons] at this
          exact this)
        obtain ⟨hstep, hr0, hr1⟩ := hst
        have hrb := HTN.out _ hstep.bd
        have hto : told D1 ≤ told (wkG L f yn (D1, rd1)).1.1 := hstep.told
        have HB2 := Lib.hid (And.intro hstep.bd (show zeros (wkG L f yn (D1, rd1)).1.1 < f from Nat.lt_of_le_of_lt hstep.zr HB.out.2))
        clear HW1 hdrop hy hstep hdi hdic
        generalize hrr : wkG L f yn (D1, rd1) = rr at *
        obtain ⟨⟨D2, rd2⟩, r2⟩ := rr
        clear hrr
        go_wp2_with fail
        refine HC.out.mono ?_
        rintro e w8 ⟨rfl, hM8⟩
        have HM8 := Lib.hid hM8
        clear hM8 HC HM
        go_wp2_with fail
        go_roundw
        case rel => exact ⟨j + 1, max m r2, D2, rd2, by simp, by simp, by omega, HM8.out, HN.out, HB2.out.1, HB2.out.2, by omega, by omega⟩
        case measure => (simp [intOf]; omega)

end Go.Proofs.YtlkgmcacbfoijaaGreat

set_option linter.unusedSimpArgs false
set_option linter.unusedVariables false
namespace Go.Proofs.YtlkgmcacbfoijaaGreat

/-! ### what the question comes to: plain -/
/-- a rank that falls with each call -/
structure Rank (L : List (List Int)) (rk : Nat → Nat) : Prop where
  pos : ∀ k, k < L.length → 1 ≤ rk k
  down : ∀ k, k < L.length → ∀ j ∈ L.getD k [], rk j.toNat < rk k
def DepthOK (L : List (List Int)) : Prop := ∃ rk, Rank L rk ∧ ∀ k, k < L.length → rk k ≤ 8
def Le (rk : Nat → Nat) (D : List Int) : Prop := ∀ k, 0 < D.getD k 0 → D.getD k 0 ≤ (rk k : Int)
theorem wk_rank {L : List (List Int)} {rk : Nat → Nat} (hL : InL L) (hr : Rank L rk) : ∀ (f i : Nat) (s : DS), i < L.length → Bd L s.1 → zeros s.1 < f → s.2 = false → (∀ k, s.1.getD k 0 = -1 → rk i < rk k) → Le rk s.1 →
    (wkG L f i s).1.2 = false ∧ Le rk (wkG L f i s).1.1 ∧ (∀ k, (wkG L f i s).1.1.getD k 0 = -1 ↔ s.1.getD k 0 = -1) ∧ (wkG L f i s).2 ≤ (rk i : Int)
  | 0, i, s, _, _, h, _, _, _ => absurd h (Nat.not_lt_zero _)
  | f + 1, i, s, hi, hb, hz, hs, how, hle => by
    have hil : i < s.1.length := by rw [hb.len]; exact hi
    have hne : s.1.getD i 0 ≠ -1 := fun e => by have := how i e; omega
    rw [wkG_succ, if_neg (by rw [hs]; simpa using hne)]
    split
    · rename_i hp
      exact ⟨hs, hle, fun _ => Iff.rfl, hle i hp⟩
    · rename_i hp
      have h0 : s.1.getD i 0 = 0 := by have := (hb.get i).1; omega
      have hz1 : zeros (s.1.set i (-1)) + 1 = zeros s.1 := by
        have ht := countP_set (fun d => decide (d = 0)) s.1 i hil (-1)
        rw [h0] at ht
        unfold zeros; simpa using ht
      have ht1 : told (s.1.set i (-1)) = told s.1 := by
        have ht := countP_set (fun d => decide (0 < d)) s.1 i hil (-1)
        rw [h0] at ht
        unfold told; simpa using ht
      have hb1 : Bd L (s.1.set i (-1)) := by
        refine Bd.mk' (by rw [List.length_set]; exact hb.len) (fun k _ => ?_)
        rw [getD_set _ _ _ hil, ht1]
        split
        · exact ⟨Int.le_refl _, by omega⟩
        · exact hb.get k
      have hf : ∀ (js : List Int) (t : DS × Int), (∀ j ∈ js, (0 ≤ j ∧ j < (L.length : Int)) ∧ rk j.toNat < rk i) → Bd L t.1.1 → zeros t.1.1 < f → t.1.2 = false → (∀ k, t.1.1.getD k 0 = -1 → rk i ≤ rk k) → Le rk t.1.1 → t.2 < (rk i : Int) →
          (wkL L f js t).1.2 = false ∧ Le rk (wkL L f js t).1.1 ∧ (∀ k, (wkL L f js t).1.1.getD k 0 = -1 ↔ t.1.1.getD k 0 = -1) ∧ (wkL L f js t).2 < (rk i : Int) ∧ Bd L (wkL L f js t).1.1 ∧ t.2 ≤ (wkL L f js t).2 := by
        intro js
        induction js with
        | nil => exact fun t _ hb _ h1 _ h3 h4 => ⟨h1, h3, fun _ => Iff.rfl, h4, hb, Int.le_refl _⟩
        | cons j js ih =>
          intro t hj hb hz h1 h2 h3 h4
          rw [wkL_cons]
          obtain ⟨hj1, hj2⟩ := hj j (by simp)
          have hjl : j.toNat < L.length := by omega
          have hst := (wk_step hL f j.toNat t.1 hjl hb).1
          obtain ⟨a, b, c, d⟩ := wk_rank hL hr f j.toNat t.1 hjl hb hz h1 (fun k hk => by have := h2 k hk; omega) h3
          obtain ⟨a', b', c', d', e', g'⟩ := ih ((wkG L f j.toNat t.1).1, max t.2 (wkG L f j.toNat t.1).2) (fun x hx => hj x (by simp [hx])) hst.bd (Nat.lt_of_le_of_lt hst.zr hz) a (fun k hk => h2 k ((c k).1 hk)) b (by show max t.2 (wkG L f j.toNat t.1).2 < (rk i : Int); omega)
          have g' : max t.2 (wkG L f j.toNat t.1).2 ≤ _ := g'
          exact ⟨a', b', fun k => (c' k).trans (c k), d', e', by omega⟩
      have hpos := hr.pos i hi
      obtain ⟨a, b, c, d, e, g0⟩ := hf (L.getD i []) ((s.1.set i (-1), false), 0) (fun j hj => ⟨hL.at_ j hj, hr.down i hi j hj⟩) hb1 (by show zeros (s.1.set i (-1)) < f; omega) rfl (fun k hk => by
        have hk : (s.1.set i (-1)).getD k 0 = -1 := hk
        rw [getD_set _ _ _ hil] at hk
        by_cases e : k = i
        · subst e; exact Nat.le_refl _
        · rw [if_neg e] at hk
          exact Nat.le_of_lt (how k hk)) (fun k hk => by
        have hk : 0 < (s.1.set i (-1)).getD k 0 := hk
        show (s.1.set i (-1)).getD k 0 ≤ _
        rw [getD_set _ _ _ hil] at hk ⊢
        by_cases e : k = i
        · rw [if_pos e] at hk; omega
        · rw [if_neg e] at hk ⊢
          exact hle k hk) (by show (0 : Int) < _; omega)
      generalize wkL L f (L.getD i []) ((s.1.set i (-1), false), 0) = r at *
      have hlr : i < r.1.1.length := by rw [e.len]; exact hi
      have hri : r.1.1.getD i 0 = -1 := (c i).2 (by show (s.1.set i (-1)).getD i 0 = -1; rw [getD_set _ _ _ hil, if_pos rfl])
      have hst := wk_step hL (f + 1) i s hi hb
      refine ⟨a, fun k hk => ?_, fun k => ?_, by show r.2 + 1 ≤ _; omega⟩
      · have hk : 0 < (r.1.1.set i (r.2 + 1)).getD k 0 := hk
        show (r.1.1.set i (r.2 + 1)).getD k 0 ≤ _
        rw [getD_set _ _ _ hlr] at hk ⊢
        by_cases e : k = i
        · rw [if_pos e]; subst e; omega
        · rw [if_neg e] at hk ⊢
          exact b k hk
      · show (r.1.1.set i (r.2 + 1)).getD k 0 = -1 ↔ _
        rw [getD_set _ _ _ hlr]
        by_cases e : k = i
        · rw [if_pos e]
          subst e
          rw [h0]
          constructor
          · intro h
            have g0 : (0 : Int) ≤ r.2 := g0
            omega
          · intro h; omega
        · rw [if_neg e]
          refine (c k).trans ?_
          show (s.1.set i (-1)).getD k 0 = -1 ↔ _
          rw [getD_set _ _ _ hil, if_neg e]
def Good (L : List (List Int)) (D : List Int) : Prop := ∀ k, k < L.length → 0 < D.getD k 0 → ∀ j ∈ L.getD k [], 0 < D.getD j.toNat 0 ∧ D.getD j.toNat 0 < D.getD k 0
theorem wk_good {L : List (List Int)} (hL : InL L) : ∀ (f i : Nat) (s : DS), i < L.length → Bd L s.1 → zeros s.1 < f → (wkG L f i s).1.2 = false →
    s.2 = false ∧ (Good L s.1 → Good L (wkG L f i s).1.1) ∧ 0 < (wkG L f i s).1.1.getD i 0 ∧ (wkG L f i s).2 = (wkG L f i s).1.1.getD i 0 ∧ ∀ k, 0 < s.1.getD k 0 → (wkG L f i s).1.1.getD k 0 = s.1.getD k 0
  | 0, i, s, _, _, h, _ => absurd h (Nat.not_lt_zero _)
  | f + 1, i, s, hi, hb, hz, hrd => by
    have hil : i < s.1.length := by rw [hb.len]; exact hi
    have hst0 := (wk_step hL (f + 1) i s hi hb)
    rw [wkG_succ] at hrd ⊢
    by_cases h1 : (s.2 || s.1.getD i 0 == -1) = true
    · rw [if_pos h1] at hrd; cases hrd
    rw [if_neg h1] at hrd ⊢
    have hs : s.2 = false := by cases h : s.2 with
      | true => rw [h] at h1; exact absurd rfl h1
      | false => rfl
    have hne : s.1.getD i 0 ≠ -1 := fun e => h1 (by rw [e]; simp)
    by_cases hp : 0 < s.1.getD i 0
    · rw [if_pos hp]
      exact ⟨hs, fun h => h, hp, rfl, fun _ _ => rfl⟩
    · rw [if_neg hp] at hrd ⊢
      have h0 : s.1.getD i 0 = 0 := by have := (hb.get i).1; omega
      have hz1 : zeros (s.1.set i (-1)) + 1 = zeros s.1 := by
        have ht := countP_set (fun d => decide (d = 0)) s.1 i hil (-1)
        rw [h0] at ht
        unfold zeros; simpa using ht
      have ht1 : told (s.1.set i (-1)) = told s.1 := by
        have ht := countP_set (fun d => decide (0 < d)) s.1 i hil (-1)
        rw [h0] at ht
        unfold told; simpa using ht
      have hb1 : Bd L (s.1.set i (-1)) := by
        refine Bd.mk' (by rw [List.length_set]; exact hb.len) (fun k _ => ?_)
        rw [getD_set _ _ _ hil, ht1]
        split
        · exact ⟨Int.le_refl _, by omega⟩
        · exact hb.get k
      have hf : ∀ (js : List Int) (t : DS × Int), (∀ j ∈ js, 0 ≤ j ∧ j < (L.length : Int)) → Bd L t.1.1 → zeros t.1.1 < f → (wkL L f js t).1.2 = false →
          t.1.2 = false ∧ (Good L t.1.1 → Good L (wkL L f js t).1.1) ∧ (∀ k, 0 < t.1.1.getD k 0 → (wkL L f js t).1.1.getD k 0 = t.1.1.getD k 0) ∧ t.2 ≤ (wkL L f js t).2 ∧ (∀ j ∈ js, 0 < (wkL L f js t).1.1.getD j.toNat 0 ∧ (wkL L f js t).1.1.getD j.toNat 0 ≤ (wkL L f js t).2) ∧ Step L t.1.1 (wkL L f js t).1.1 := by
        intro js
        induction js with
        | nil => exact fun t _ hb _ h => ⟨h, fun h => h, fun _ _ => rfl, Int.le_refl _, fun j hj => by simp at hj, Step.refl hb⟩
        | cons j js ih =>
          intro t hj hb hz hrd
          rw [wkL_cons] at hrd ⊢
          have hj1 := hj j (by simp)
          have hjl : j.toNat < L.length := by omega
          have hst := (wk_step hL f j.toNat t.1 hjl hb).1
          obtain ⟨a, b, c, d, e, g⟩ := ih ((wkG L f j.toNat t.1).1, max t.2 (wkG L f j.toNat t.1).2) (fun x hx => hj x (by simp [hx])) hst.bd (Nat.lt_of_le_of_lt hst.zr hz) hrd
          obtain ⟨a', b', c', d', e'⟩ := wk_good hL f j.toNat t.1 hjl hb hz a
          have d : max t.2 (wkG L f j.toNat t.1).2 ≤ _ := d
          refine ⟨a', fun h => b (b' h), fun k hk => ?_, by omega, fun x hx => ?_, hst.trans g⟩
          · have h1 := e' k hk
            rw [c k (by show 0 < (wkG L f j.toNat t.1).1.1.getD k 0; omega)]
            exact h1
          · rcases List.mem_cons.1 hx with rfl | hx
            · have h2 := c x.toNat c'
              rw [h2]
              exact ⟨c', by rw [← d']; omega⟩
            · exact e x hx
      obtain ⟨a, b, c, d, e, g⟩ := hf (L.getD i []) ((s.1.set i (-1), false), 0) hL.at_ hb1 (by show zeros (s.1.set i (-1)) < f; omega) hrd
      generalize wkL L f (L.getD i []) ((s.1.set i (-1), false), 0) = r at *
      have hlr : i < r.1.1.length := by rw [g.bd.len]; exact hi
      have hri : r.1.1.getD i 0 = -1 := g.onway i (by show (s.1.set i (-1)).getD i 0 = -1; rw [getD_set _ _ _ hil, if_pos rfl])
      have hd0 : (0 : Int) ≤ r.2 := d
      have hG1 : Good L s.1 → Good L (s.1.set i (-1)) := fun hg k hk hp j hj => by
        rw [getD_set _ _ _ hil] at hp
        by_cases e : k = i
        · rw [if_pos e] at hp; omega
        · rw [if_neg e] at hp
          have := hg k hk hp j hj
          have hji : j.toNat ≠ i := fun e => by rw [e] at this; omega
          rw [getD_set s.1 i j.toNat hil, getD_set s.1 i k hil, if_neg hji, if_neg e]
          exact this
      refine ⟨hs, fun hg k hk hp j hj => ?_, ?_, ?_, fun k hk => ?_⟩
      · have hg2 := b (hG1 hg)
        show 0 < (r.1.1.set i (r.2 + 1)).getD j.toNat 0 ∧ (r.1.1.set i (r.2 + 1)).getD j.toNat 0 < (r.1.1.set i (r.2 + 1)).getD k 0
        have hp : 0 < (r.1.1.set i (r.2 + 1)).getD k 0 := hp
        rw [getD_set _ _ _ hlr] at hp ⊢
        rw [getD_set _ _ _ hlr]
        by_cases ek : k = i
        · subst ek
          have := e j hj
          have hji : j.toNat ≠ k := fun e => by rw [e] at this; omega
          rw [if_neg hji, if_pos rfl]
          omega
        · rw [if_neg ek] at hp ⊢
          have := hg2 k hk hp j hj
          have hji : j.toNat ≠ i := fun e => by rw [e] at this; omega
          rw [if_neg hji]
          exact this
      · show 0 < (r.1.1.set i (r.2 + 1)).getD i 0
        rw [getD_set _ _ _ hlr, if_pos rfl]
        omega
      · show r.2 + 1 = (r.1.1.set i (r.2 + 1)).getD i 0
        rw [getD_set _ _ _ hlr, if_pos rfl]
      · show (r.1.1.set i (r.2 + 1)).getD k 0 = _
        have hki : k ≠ i := fun e => by subst e; omega
        rw [getD_set _ _ _ hlr, if_neg hki]
        have : 0 < (s.1.set i (-1)).getD k 0 := by rw [getD_set _ _ _ hil, if_neg hki]; exact hk
        rw [c k this]
        show (s.1.set i (-1)).getD k 0 = _
        rw [getD_set _ _ _ hil, if_neg hki]

/-! ### all questions -/
def dpT (L : List (List Int)) (k : Nat) : DS × Int := wkL L (L.length + 1) ((List.range k).map fun (i : Nat) => (i : Int)) ((List.replicate L.length 0, false), 0)
theorem dpT_zero (L : List (List Int)) : dpT L 0 = ((List.replicate L.length 0, false), 0) := rfl
theorem dpT_succ (L : List (List Int)) (k : Nat) : dpT L (k + 1) = ((wkG L (L.length + 1) k (dpT L k).1).1, max (dpT L k).2 (wkG L (L.length + 1) k (dpT L k).1).2) := by
  unfold dpT wkL
  rw [List.range_succ, List.map_append, List.foldl_append]
  rfl
theorem zeros_le (D : List Int) : zeros D ≤ D.length := List.countP_le_length
theorem bd_start (L : List (List Int)) : Bd L (List.replicate L.length 0) := by
  refine Bd.mk' (by simp) (fun i hi => ?_)
  have : (List.replicate L.length (0 : Int)).getD i 0 = 0 := by
    rw [List.getD_eq_getElem?_getD, List.getElem?_replicate]
    split <;> rfl
  rw [this]
  exact ⟨by decide, Int.natCast_nonneg _⟩
theorem dpT_bd {L : List (List Int)} (hL : InL L) : ∀ k, k ≤ L.length → Bd L (dpT L k).1.1 ∧ 0 ≤ (dpT L k).2 ∧ (dpT L k).2 ≤ (told (dpT L k).1.1 : Int)
  | 0, _ => ⟨bd_start L, Int.le_refl _, Int.natCast_nonneg _⟩
  | k + 1, hk => by
    obtain ⟨a, b, c⟩ := dpT_bd hL k (by omega)
    rw [dpT_succ]
    obtain ⟨d, e, f⟩ := wk_step hL (L.length + 1) k (dpT L k).1 (by omega) a
    have := d.told
    exact ⟨d.bd, by show 0 ≤ max _ _; omega, by show max (dpT L k).2 (wkG L (L.length + 1) k (dpT L k).1).2 ≤ (told (wkG L (L.length + 1) k (dpT L k).1).1.1 : Int); omega⟩
theorem zeros_small {L : List (List Int)} {D : List Int} (h : Bd L D) : zeros D < L.length + 1 := by
  have := zeros_le D
  rw [h.len] at this
  omega
theorem dp_ok {L : List (List Int)} (hL : InL L) : ((dpT L L.length).1.2 = false ∧ (dpT L L.length).2 ≤ 8) ↔ DepthOK L := by
  constructor
  · rintro ⟨h1, h2⟩
    have hk : ∀ k, k ≤ L.length → (dpT L k).1.2 = false → Good L (dpT L k).1.1 ∧ ∀ i, i < k → 0 < (dpT L k).1.1.getD i 0 ∧ (dpT L k).1.1.getD i 0 ≤ (dpT L k).2 := by
      intro k
      induction k with
      | zero => exact fun _ _ => ⟨fun k hk hp => by
          have : (List.replicate L.length (0 : Int)).getD k 0 = 0 := by
            rw [List.getD_eq_getElem?_getD, List.getElem?_replicate]
            split <;> rfl
          rw [dpT_zero] at hp
          have hp : 0 < (List.replicate L.length (0 : Int)).getD k 0 := hp
          omega, fun i hi => by omega⟩
      | succ k ih =>
        intro hkl hrd
        rw [dpT_succ] at hrd ⊢
        obtain ⟨a, _, _⟩ := dpT_bd hL k (by omega)
        obtain ⟨g1, g2, g3, g4, g5⟩ := wk_good hL (L.length + 1) k (dpT L k).1 (by omega) a (zeros_small a) hrd
        obtain ⟨i1, i2⟩ := ih (by omega) g1
        refine ⟨g2 i1, fun i hi => ?_⟩
        show 0 < (wkG L (L.length + 1) k (dpT L k).1).1.1.getD i 0 ∧ (wkG L (L.length + 1) k (dpT L k).1).1.1.getD i 0 ≤ max (dpT L k).2 (wkG L (L.length + 1) k (dpT L k).1).2
        by_cases e : i = k
        · subst e
          exact ⟨g3, by omega⟩
        · have := i2 i (by omega)
          rw [g5 i this.1]
          omega
    obtain ⟨hg, hp⟩ := hk L.length (Nat.le_refl _) h1
    refine ⟨fun k => ((dpT L L.length).1.1.getD k 0).toNat, ⟨fun k hk => ?_, fun k hk j hj => ?_⟩, fun k hk => ?_⟩
    · have := hp k hk
      show 1 ≤ ((dpT L L.length).1.1.getD k 0).toNat
      omega
    · have := hg k hk (hp k hk).1 j hj
      show ((dpT L L.length).1.1.getD j.toNat 0).toNat < ((dpT L L.length).1.1.getD k 0).toNat
      omega
    · have := hp k hk
      show ((dpT L L.length).1.1.getD k 0).toNat ≤ 8
      omega
  · rintro ⟨rk, hr, h8⟩
    have hk : ∀ k, k ≤ L.length → (dpT L k).1.2 = false ∧ Le rk (dpT L k).1.1 ∧ (∀ i, (dpT L k).1.1.getD i 0 ≠ -1) ∧ (dpT L k).2 ≤ 8 := by
      intro k
      induction k with
      | zero =>
        have hz : ∀ k, (List.replicate L.length (0 : Int)).getD k 0 = 0 := fun k => by
          rw [List.getD_eq_getElem?_getD, List.getElem?_replicate]
          split <;> rfl
        exact fun _ => ⟨rfl, fun k hk => by
          have hk : 0 < (List.replicate L.length (0 : Int)).getD k 0 := hk
          rw [hz k] at hk
          omega, fun i => by
          show (List.replicate L.length (0 : Int)).getD i 0 ≠ -1
          rw [hz i]
          decide, by show (0 : Int) ≤ 8; omega⟩
      | succ k ih =>
        intro hkl
        rw [dpT_succ]
        obtain ⟨a, _, _⟩ := dpT_bd hL k (by omega)
        obtain ⟨i1, i2, i3, i4⟩ := ih (by omega)
        obtain ⟨g1, g2, g3, g4⟩ := wk_rank hL hr (L.length + 1) k (dpT L k).1 (by omega) a (zeros_small a) i1 (fun j hj => absurd hj (i3 j)) i2
        have := h8 k (by omega)
        exact ⟨g1, g2, fun i h => i3 i ((g3 i).1 h), by show max (dpT L k).2 (wkG L (L.length + 1) k (dpT L k).1).2 ≤ 8; omega⟩
    obtain ⟨a, _, _, d⟩ := hk L.length (Nat.le_refl _)
    exact ⟨a, d⟩

end Go.Proofs.YtlkgmcacbfoijaaGreat

