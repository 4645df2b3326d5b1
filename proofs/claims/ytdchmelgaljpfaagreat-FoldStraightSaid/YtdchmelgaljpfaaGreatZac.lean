import Derived.Test.YtdchmelgaljpfaaGreatZab
import Derived.Test.YtdchmelgaljpfaaGreatKz
set_option linter.unusedSimpArgs false
set_option linter.unusedVariables false
namespace Go.Proofs.YtdchmelgaljpfaaGreat
open Go.RowKit

theorem infoZS : ∀ w, (zeroValue 150).run Tryz.prog w = .ok (.agg #[]) w := fun w => by kernel_rfl
theorem infoRow3 : (Tryz.prog.info? 88).map (fun i => (i.zero, i.size, i.bytes)) = some (some (.agg (rowA noneR)), 44, 352) := by kernel_rfl

/-- two rows are made -/
structure MK (n : Nat) (w0 w : World) (gr gm : Nat) : Prop where
  kp : Kept (fun _ => False) w0 w
  rows : Sl w 88 44 (.slice (some ⟨gr, 0, none⟩) n n) (List.replicate n (rowC noneR))
  met : Bls w (.slice (some ⟨gm, 0, none⟩) n n) (List.replicate n false)
  new : w0.heap.size ≤ gr ∧ w0.heap.size ≤ gm
  ne : gr ≠ gm
theorem MK.of1 {n : Nat} {w0 w1 w2 : World} (hR : Sl w1 88 44 (.slice (some ⟨w0.drew.heap.size, 0, none⟩) n n) (List.replicate n (Value.agg (rowA noneR)).cells.toList)) (hk : Kept (fun _ => False) w0.drew w1)
    (hM : Sl w2 4 1 (.slice (some ⟨w1.heap.size, 0, none⟩) n n) (List.replicate n (Value.bool false).cells.toList)) (hk2 : Kept (fun _ => False) w1 w2) : MK n w0 w2 w0.drew.heap.size w1.heap.size where
  kp := ((Kept.refl _ w0).drew.trans hk (fun _ _ e => e)).trans hk2 (fun _ _ e => e)
  rows := Sl.kept hk2 hR (fun _ _ e => e)
  met := by
    have e : (List.replicate n false).map tcell = List.replicate n (Value.bool false).cells.toList := by rw [List.map_replicate]; rfl
    unfold Bls
    rw [e]
    exact hM
  new := ⟨Nat.le_refl _, hk.size⟩
  ne := by have := Sl.lt hR w0.drew.heap.size rfl; omega
theorem MK.of2 {n : Nat} {w0 w1 w2 : World} (hM : Sl w1 4 1 (.slice (some ⟨w0.drew.heap.size, 0, none⟩) n n) (List.replicate n (Value.bool false).cells.toList)) (hk : Kept (fun _ => False) w0.drew w1)
    (hR : Sl w2 88 44 (.slice (some ⟨w1.heap.size, 0, none⟩) n n) (List.replicate n (Value.agg (rowA noneR)).cells.toList)) (hk2 : Kept (fun _ => False) w1 w2) : MK n w0 w2 w1.heap.size w0.drew.heap.size where
  kp := ((Kept.refl _ w0).drew.trans hk (fun _ _ e => e)).trans hk2 (fun _ _ e => e)
  rows := hR
  met := by
    have e : (List.replicate n false).map tcell = List.replicate n (Value.bool false).cells.toList := by rw [List.map_replicate]; rfl
    unfold Bls
    rw [e]
    exact Sl.kept hk2 hM (fun _ _ e => e)
  new := ⟨hk.size, Nat.le_refl _⟩
  ne := by have := Sl.lt hM w0.drew.heap.size rfl; omega

theorem nats_snoc (Q : List Nat) (f : Nat) : natsI (Q ++ [f]) = natsI Q ++ [(f : Int)] := by simp [natsI]
theorem lookI_upd2 (M : List (Int × Value)) (x y : Int) (u : Value) : lookI (updI M x u) y = if x = y then some u else lookI M y := by
  induction M with
  | nil => rfl
  | cons p M ih =>
    obtain ⟨k, v⟩ := p
    unfold updI
    by_cases e : k = x
    · rw [if_pos e]
      unfold lookI
      subst e
      by_cases e2 : k = y <;> simp [e2]
    · rw [if_neg e]
      unfold lookI
      rw [ih]
      by_cases e2 : k = y
      · have : ¬ x = y := fun e3 => e (e2.trans e3.symm)
        simp [e2, this]
      · simp [e2]
/-- the first k subprograms are there -/
structure SI (l : List In) (P : List Pt2) (k : Nat) (V : List (Option KR)) (F : List (Int × Value)) (Q : List Nat) : Prop where
  len : V.length = l.length
  som : ∀ (i : Nat) (r : KR), V[i]? = some (some r) → r = noneR ∧ (∃ p ∈ P.take k, p.1 = (i : Int)) ∧ Rch l i
  fst : ∀ i, i < l.length → (∃ p ∈ P.take k, p.1 = (i : Int)) → Rch l i → V[i]? = some (some noneR)
  q : ∀ i ∈ Q, V[i]? = some (some noneR)
  q2 : ∀ (i : Nat) (r : KR), V[i]? = some (some r) → i ∈ Q
  look : ∀ y : Int, (lookI F y).isSome = true ↔ ∃ i : Nat, y = i ∧ V[i]? = some (some noneR)
  ql : Q.length ≤ k
  fv : ∀ (y : Int) (u : Value), lookI F y = some u → u = .agg #[]
theorem SI.start (l : List In) (P : List Pt2) : SI l P 0 (List.replicate l.length none) [] [] where
  len := by simp
  som i r h := by rw [List.getElem?_replicate] at h; split at h <;> simp at h
  fst i _ h := by obtain ⟨p, hp, _⟩ := h; simp at hp
  q i h := by cases h
  q2 i r h := by rw [List.getElem?_replicate] at h; split at h <;> simp at h
  look y := ⟨fun h => by simp [lookI] at h, fun ⟨i, _, h⟩ => by rw [List.getElem?_replicate] at h; split at h <;> simp at h⟩
  ql := Nat.le_refl _
  fv y u h := by simp [lookI] at h
theorem SI.no {l : List In} {P : List Pt2} {k : Nat} {V : List (Option KR)} {F : List (Int × Value)} {Q : List Nat} (h : SI l P k V F Q) {f : Nat} {t : Int} (hp : P[k]? = some ((f : Int), t)) (hr : ¬ Rch l f) : SI l P (k + 1) V F Q where
  len := h.len
  som i r hv := by
    obtain ⟨h1, ⟨p, hp1, hp2⟩, h3⟩ := h.som i r hv
    exact ⟨h1, ⟨p, by rw [List.take_add_one]; exact List.mem_append_left _ hp1, hp2⟩, h3⟩
  fst i hi he hri := by
    obtain ⟨p, hp1, hp2⟩ := he
    rw [List.take_add_one, hp] at hp1
    rcases List.mem_append.1 hp1 with hp1 | hp1
    · exact h.fst i hi ⟨p, hp1, hp2⟩ hri
    · simp only [Option.toList, List.mem_singleton] at hp1
      subst hp1
      obtain rfl : f = i := Int.ofNat_inj.1 hp2
      exact absurd hri hr
  q := h.q
  q2 := h.q2
  look := h.look
  ql := Nat.le_succ_of_le h.ql
  fv := h.fv
theorem SI.yes {l : List In} {P : List Pt2} {k : Nat} {V : List (Option KR)} {F : List (Int × Value)} {Q : List Nat} (h : SI l P k V F Q) {f : Nat} {t : Int} (hp : P[k]? = some ((f : Int), t)) (hf : f < l.length) (hr : Rch l f) : SI l P (k + 1) (V.set f (some noneR)) (updI F f (.agg #[])) (Q ++ [f]) where
  len := by rw [List.length_set]; exact h.len
  som i r hv := by
    rw [List.getElem?_set] at hv
    by_cases e : f = i
    · subst e
      rw [if_pos rfl, if_pos (by rw [h.len]; exact hf)] at hv
      cases hv
      exact ⟨rfl, ⟨((f : Int), t), by rw [List.take_add_one, hp]; simp, rfl⟩, hr⟩
    · rw [if_neg e] at hv
      obtain ⟨h1, ⟨p, hp1, hp2⟩, h3⟩ := h.som i r hv
      exact ⟨h1, ⟨p, by rw [List.take_add_one]; exact List.mem_append_left _ hp1, hp2⟩, h3⟩
  fst i hi he hri := by
    rw [List.getElem?_set]
    by_cases e : f = i
    · rw [if_pos e, if_pos (by rw [h.len]; exact hf)]
    · rw [if_neg e]
      obtain ⟨p, hp1, hp2⟩ := he
      rw [List.take_add_one, hp] at hp1
      rcases List.mem_append.1 hp1 with hp1 | hp1
      · exact h.fst i hi ⟨p, hp1, hp2⟩ hri
      · simp only [Option.toList, List.mem_singleton] at hp1
        subst hp1
        exact absurd (Int.ofNat_inj.1 hp2) e
  q i hi := by
    rw [List.getElem?_set]
    by_cases e : f = i
    · rw [if_pos e, if_pos (by rw [h.len]; exact hf)]
    · rw [if_neg e]
      rcases List.mem_append.1 hi with hi | hi
      · exact h.q i hi
      · exact absurd (List.mem_singleton.1 hi).symm e
  q2 i r hv := by
    rw [List.getElem?_set] at hv
    by_cases e : f = i
    · subst e; simp
    · rw [if_neg e] at hv
      exact List.mem_append_left _ (h.q2 i r hv)
  look y := by
    rw [lookI_upd2]
    by_cases e : (f : Int) = y
    · rw [if_pos e]
      refine ⟨fun _ => ⟨f, e.symm, ?_⟩, fun _ => rfl⟩
      rw [List.getElem?_set_self (by rw [h.len]; exact hf)]
    · rw [if_neg e, h.look y]
      refine ⟨fun ⟨i, hi, hv⟩ => ⟨i, hi, ?_⟩, fun ⟨i, hi, hv⟩ => ⟨i, hi, ?_⟩⟩
      · rw [List.getElem?_set_ne (fun e2 => e (by rw [e2, hi]))]; exact hv
      · rw [List.getElem?_set_ne (fun e2 => e (by rw [e2, hi]))] at hv; exact hv
  ql := by rw [List.length_append]; have := h.ql; simp; omega
  fv y u hu := by
    rw [lookI_upd2] at hu
    split at hu
    · cases hu; rfl
    · exact h.fv y u hu
theorem top_start {l : List In} {V : List (Option KR)} (hl : V.length = l.length) (hs : ∀ (i : Nat) (r : KR), V[i]? = some (some r) → r = noneR ∧ (flwL l).first i) : (flwL l).Top V where
  len := hl
  top U hU i u v hu hv := by
    cases v with
    | none => cases u <;> trivial
    | some r =>
      obtain ⟨rfl, hf⟩ := hs i r hv
      rw [hU.st i hf] at hu
      cases hu
      exact LeR.refl _
theorem SI.done {l : List In} {V : List (Option KR)} {F : List (Int × Value)} {Q : List Nat} {k : Nat} (h : SI l (partsL l) k V F Q) (hk : (partsL l).length ≤ k) (hc : checkI l = 0) : WI l V Q ∧ (∀ y : Int, (lookI F y).isSome = true ↔ ∃ i : Nat, y = i ∧ (flwL l).first i) := by
  have ht : (partsL l).take k = partsL l := List.take_of_length_le hk
  have hfl : ∀ i, (flwL l).first i → V[i]? = some (some noneR) := fun i hi => h.fst i (rch_ok hc hi.2).1 (by rw [ht]; exact hi.1) hi.2
  have hlf : ∀ (i : Nat) (r : KR), V[i]? = some (some r) → r = noneR ∧ (flwL l).first i := fun i r hv => by
    obtain ⟨h1, h2, h3⟩ := h.som i r hv
    rw [ht] at h2
    exact ⟨h1, h2, h3⟩
  refine ⟨⟨⟨h.len, fun i r hv => by rw [(hlf i r hv).1]; exact num_none, hfl, fun i r hv => (hlf i r hv).2.2, top_start h.len hlf⟩, fun i hi => ⟨_, h.q i hi⟩, fun i r hv hq => absurd (h.q2 i r hv) hq⟩, fun y => ?_⟩
  rw [h.look y]
  exact ⟨fun ⟨i, hi, hv⟩ => ⟨i, hi, (hlf i _ hv).2⟩, fun ⟨i, hi, hv⟩ => ⟨i, hi, hfl i hv⟩⟩

set_option maxHeartbeats 8000000 in
set_option maxRecDepth 100000 in
theorem known_rows (l : List In) (a : Option Addr) (c : Nat) (w : World) (h : Ins w (.slice a l.length c) l) (hok : InsOk l) (hz : checkI l = 0) :
    Calls Tryz.prog 17 #[.slice a l.length c] w fun e w' => ∃ V gr gm, e = .returned (.tuple #[.slice (some ⟨gr, 0, none⟩) l.length l.length, .slice (some ⟨gm, 0, none⟩) l.length l.length]) ∧ KIs l V ∧
      Sl w' 88 44 (.slice (some ⟨gr, 0, none⟩) l.length l.length) (V.map vrow) ∧ Bls w' (.slice (some ⟨gm, 0, none⟩) l.length l.length) (V.map (·.isSome)) ∧ Kept (fun _ => False) w w' ∧ w.heap.size ≤ gr ∧ w.heap.size ≤ gm := by
  have hlen := hok.len
  have HSU := Lib.hid (fun W hI => isubs2_any l a c W hI hok hz)
  have HRE := Lib.hid (fun W hI => fReached_any l a c W hI hok)
  rw [hz] at HRE
  have hmm := @run_makeMap Tryz.prog
  have HIN := Lib.hid (fun (W : World) (hk : Kept (fun _ => False) w W) => h.kept hk)
  have HOK := Lib.hid hok
  have HZ := Lib.hid hz
  clear h hok hz
  obtain ⟨i0, hI0, hI1, hI2, hI3⟩ := info_parts infoRow3
  obtain ⟨j0, hJ0, hJ1, hJ2, hJ3⟩ := info_parts infoB
  have HI0 := Lib.hid (And.intro hI0 (And.intro hI1 (And.intro hI2 hI3)))
  have HJ0 := Lib.hid (And.intro hJ0 (And.intro hJ1 (And.intro hJ2 hJ3)))
  clear hI0 hI1 hI2 hI3 hJ0 hJ1 hJ2 hJ3
  go_enter Tryz.func17, Tryz.ntmps17
  go_wp2_with fail
  refine wp_scope_straight ?_
  go_wp2_with fail
  refine Code.wp_mono (Q := fun e a' w' => e = .normal ∧ ∃ gr gm, MK l.length w w' gr gm ∧ a' = { tmps := #[.slice a l.length c, undef, .slice none 0 0, .slice none 0 0, .slice (some ⟨gr, 0, none⟩) l.length l.length, .slice (some ⟨gm, 0, none⟩) l.length l.length, undef, undef, undef, undef, undef, undef, undef, undef, undef, undef, undef, undef, undef, undef, undef, undef, undef, undef, .slice a l.length c, .int .i64 l.length, .slice (some ⟨gr, 0, none⟩) l.length l.length, .slice a l.length c, .int .i64 l.length, .slice (some ⟨gm, 0, none⟩) l.length l.length, undef, undef, undef, undef, undef, undef, undef, undef, undef, undef, undef, undef, undef, undef, undef, undef, undef, undef, undef, undef, undef, undef, undef, undef, undef, undef, undef, undef, undef, undef, undef, undef, undef, undef, undef, undef, undef, undef, undef, undef, undef, undef, undef, undef, undef, undef, undef, undef, undef, undef, undef, undef, undef, undef, undef, undef, undef, undef, undef, undef, undef, undef, undef, undef, undef, undef, undef, undef, undef, undef, undef, undef, undef, undef, undef, undef, undef, undef, undef, undef, undef, undef, undef, undef, undef, undef, undef, undef, undef, undef, undef, undef, undef, undef, undef, undef, undef, undef, undef, undef, undef, undef, undef, undef, undef, undef, undef, undef, undef, undef, undef, undef, undef, undef], defers := [] }) ?_ ?_
  rotate_left
  · refine wp_region_tree [.w, .w, .k, .w, .w, .k, .w, .w] (fun _ => True) [true, true, true, true, true, true, true, true] (by kernel_rfl) (by kernel_rfl) (by kernel_rfl) ?_
    refine tree_fork2 [true, true, true, false, false, false, false, false] [false, false, false, true, true, true, true, true] [false, false, false, true, true, true, false, false] [true, true, true, false, false, false, true, true] (by kernel_rfl) ?_ ?_
    · simp only [keep]
      refine mix_w1 ?_; go_big_quiet_step (fail); refine wpQuiet_nil ?_
      refine mix_w1 ?_; go_big_quiet_step (fail); refine wpQuiet_nil ?_
      refine mix_k (by exact trivial) fun Q' hQ' => ?_
      refine wpList_makeBig (w := _) rfl _ _ 84 rfl (.agg (rowA noneR)) 44 rfl (by omega) Tryz.underlying84 HI0.out.1 HI0.out.2.1 HI0.out.2.2.1 HI0.out.2.2.2 (by omega) l.length rfl rfl (by omega) ?_
      intro w1 hR1 hk1
      refine hQ' _ _ trivial ?_
      clear hQ' Q'
      refine mix_done ?_
      try simp only [Act.put, List.setIfInBounds_toArray, List.set_cons_succ, List.set_cons_zero]
      refine tree_fork1 [false, false, false, true, true, true, false, false] [false, false, false, false, false, false, true, true] (by kernel_rfl) ?_
      simp only [keep]
      refine mix_w1 ?_; go_big_quiet_step (fail); refine wpQuiet_nil ?_
      refine mix_w1 ?_; go_big_quiet_step (fail); refine wpQuiet_nil ?_
      refine mix_k (by exact trivial) fun Q' hQ' => ?_
      refine wpList_makeBig (w := _) rfl _ _ 85 rfl (.bool false) 1 rfl (by omega) Tryz.underlying85 HJ0.out.1 HJ0.out.2.1 HJ0.out.2.2.1 HJ0.out.2.2.2 (by omega) l.length rfl rfl (by omega) ?_
      intro w2 hM2 hk2
      refine hQ' _ _ trivial ?_
      clear hQ' Q'
      refine mix_done ?_
      try simp only [Act.put, List.setIfInBounds_toArray, List.set_cons_succ, List.set_cons_zero]
      refine tree_last (by kernel_rfl) ?_
      simp only [keep]
      refine mix_w1 ?_; go_big_quiet_step (fail); refine wpQuiet_nil ?_
      refine mix_w1 ?_; go_big_quiet_step (fail); refine wpQuiet_nil ?_
      refine mix_done ?_
      exact ⟨(by first | rfl | trivial), _, _, MK.of1 hR1 hk1 hM2 hk2, rfl⟩
    · simp only [keep]
      refine mix_w1 ?_; go_big_quiet_step (fail); refine wpQuiet_nil ?_
      refine mix_w1 ?_; go_big_quiet_step (fail); refine wpQuiet_nil ?_
      refine mix_k (by exact trivial) fun Q' hQ' => ?_
      refine wpList_makeBig (w := _) rfl _ _ 85 rfl (.bool false) 1 rfl (by omega) Tryz.underlying85 HJ0.out.1 HJ0.out.2.1 HJ0.out.2.2.1 HJ0.out.2.2.2 (by omega) l.length rfl rfl (by omega) ?_
      intro w1 hM1 hk1
      refine hQ' _ _ trivial ?_
      clear hQ' Q'
      refine mix_done ?_
      try simp only [Act.put, List.setIfInBounds_toArray, List.set_cons_succ, List.set_cons_zero]
      refine tree_fork1 [true, true, true, false, false, false, false, false] [false, false, false, false, false, false, true, true] (by kernel_rfl) ?_
      simp only [keep]
      refine mix_w1 ?_; go_big_quiet_step (fail); refine wpQuiet_nil ?_
      refine mix_w1 ?_; go_big_quiet_step (fail); refine wpQuiet_nil ?_
      refine mix_k (by exact trivial) fun Q' hQ' => ?_
      refine wpList_makeBig (w := _) rfl _ _ 84 rfl (.agg (rowA noneR)) 44 rfl (by omega) Tryz.underlying84 HI0.out.1 HI0.out.2.1 HI0.out.2.2.1 HI0.out.2.2.2 (by omega) l.length rfl rfl (by omega) ?_
      intro w2 hR2 hk2
      refine hQ' _ _ trivial ?_
      clear hQ' Q'
      refine mix_done ?_
      try simp only [Act.put, List.setIfInBounds_toArray, List.set_cons_succ, List.set_cons_zero]
      refine tree_last (by kernel_rfl) ?_
      simp only [keep]
      refine mix_w1 ?_; go_big_quiet_step (fail); refine wpQuiet_nil ?_
      refine mix_w1 ?_; go_big_quiet_step (fail); refine wpQuiet_nil ?_
      refine mix_done ?_
      exact ⟨(by first | rfl | trivial), _, _, MK.of2 hM1 hk1 hR2 hk2, rfl⟩
  · rintro e a' w1 ⟨rfl, gr, gm, hmk, rfl⟩
    have HMK := Lib.hid hmk
    clear hmk
    have hp64 := (check_parts HZ.out).2.1
    have HPO := Lib.hid (parts_ok (check_parts HZ.out).1)
    go_wp2_with fail
    refine (HSU.out _ (HIN.out _ HMK.out.kp)).mono ?_
    rintro e w2 ⟨pv, rfl, hP, hk2, hpo⟩
    have hK2 := HMK.out.kp.trans hk2 (fun _ _ e => e)
    go_wp2_with fail
    refine (HRE.out _ (HIN.out _ hK2)).mono ?_
    rintro e w3 ⟨ov, rfl, hB, hk3, hbo⟩
    have hB := hB trivial
    have hK3 := hK2.trans hk3 (fun _ _ e => e)
    have hP3 := Sl.kept hk3 hP (fun _ _ e => e)
    obtain ⟨pA, pC, hpv⟩ := Sl.any hP
    rw [List.length_map] at hpv
    have HP := Lib.hid (And.intro hP3 (And.intro hpo (And.intro hB hbo)))
    have HMK3 := Lib.hid (show Kept (fun _ => False) w1 w3 from hk2.trans hk3 (fun _ _ e => e))
    have hwl := HMK3.out.size
    have hpl2 := fun g hg => Sl.lt hP g hg
    have HPL := Lib.hid (show ∀ g, pv.ownBlock = some g → g < w3.heap.size from fun g hg => Nat.lt_of_lt_of_le (hpl2 g hg) hk3.size)
    have HBL := Lib.hid (fun g hg => Sl.lt hB g hg)
    have HBO := Lib.hid (show ∀ g, ov.ownBlock = some g → w1.heap.size ≤ g from fun g hg => Nat.le_trans hk2.size (hbo g hg))
    clear hP hP3 hpo hB hbo hk2 hk3 hK2 hpl2
    subst hpv
    have HK3 := Lib.hid hK3
    clear hK3
    go_wp2_with fail
    have hkm := (Kept.refl (fun _ => False) w3).alloc (.map #[] 0)
    have hms := IMap.made w3 .i64
    have hsm : (w3.alloc (.map #[] 0)).heap.size = w3.heap.size + 1 := by simp
    have HKM := Lib.hid (show KM w (w3.alloc (.map #[] 0)) gr gm w3.heap.size (.slice none 0 0) (List.replicate l.length none) [] [] from by
      have hk := HMK3.out.trans hkm (fun _ _ e => e)
      have h1 := Sl.lt HMK.out.rows gr rfl
      have h2 := Sl.lt HMK.out.met gm rfl
      have h3 := HMK.out.new
      have h4 := HMK.out.ne
      have h5 := HMK.out.kp.size
      have e0 : (List.replicate l.length (none : Option KR)).length = l.length := List.length_replicate
      refine ⟨HK3.out.trans hkm (fun _ _ e => e), ?_, ?_, hms, Sl.nil _ _ _, ⟨h3.1, h3.2, by omega⟩, ⟨h4, by omega, by omega⟩, fun g hg => by simp [Value.ownBlock] at hg⟩
      · rw [e0, List.map_replicate]
        exact Sl.kept hk HMK.out.rows (fun _ _ e => e)
      · rw [e0, List.map_replicate]
        exact Sl.kept hk HMK.out.met (fun _ _ e => e))
    have HP4 := Lib.hid (show Pts (w3.alloc (.map #[] 0)) (.slice pA (partsL l).length pC) (partsL l) ∧ Bls (w3.alloc (.map #[] 0)) ov (rchL l) from ⟨Sl.kept hkm HP.out.1 (fun _ _ e => e), Sl.kept hkm HP.out.2.2.1 (fun _ _ e => e)⟩)
    have HSZ := Lib.hid hsm
    clear hkm hms hsm hwl
    generalize w3.alloc (.map #[] 0) = w4 at *
    have HNE := Lib.hid (show ∀ g, (Value.ownBlock (.slice pA (partsL l).length pC) = some g ∨ ov.ownBlock = some g) → g ≠ gm ∧ g ≠ w3.heap.size from fun g hg => by
      have h2 := Sl.lt HMK.out.met gm rfl
      have h6 := HMK3.out.size
      rcases hg with hg | hg
      · have := HP.out.2.1 g hg
        have := HPL.out g hg
        omega
      · have := HBO.out g hg
        have := HBL.out g hg
        omega)
    go_loopw [44, 12] (fun iv wv wr => ∃ (k : Nat) (V : List (Option KR)) (F : List (Int × Value)) (Q : List Nat), iv = .int .i64 k ∧ k ≤ (partsL l).length ∧ SI l (partsL l) k V F Q ∧ KM w wr gr gm w3.heap.size wv V F Q ∧ Kept (fun g => g = gm ∨ g = w3.heap.size) w4 wr ∧ (∀ g, wv.ownBlock = some g → w4.heap.size ≤ g)) (fun iv _ _ => (partsL l).length - (intOf iv).toNat)
    case atStart => exact ⟨0, _, _, _, rfl, Nat.zero_le _, SI.start l _, HKM.out, Kept.refl _ _, fun g hg => by simp [Value.ownBlock] at hg⟩
    case round =>
      obtain ⟨k, V, F, Q, rfl, hk, hSI, hKM, hkr, hwo⟩ := hrel
      have HS := Lib.hid hSI
      have HM := Lib.hid hKM
      have HKR := Lib.hid hkr
      have HWO := Lib.hid hwo
      have hvl := hSI.len
      have hql := hSI.ql
      clear hSI hKM hkr hwo HKM
      by_cases hlt : k < (partsL l).length
      case neg =>
        obtain rfl : k = (partsL l).length := by omega
        have hdn := HS.out.done (Nat.le_refl _) HZ.out
        have HWI := Lib.hid hdn.1
        have HFI := Lib.hid hdn.2
        have hm11 : ∀ v ∈ V, ∀ r, v = some r → r.length = 11 := fun v hv r e => by
          obtain ⟨i, hi⟩ := List.getElem?_of_mem hv
          exact (hdn.1.b.num i r (by rw [hi, e])).1
        have hszT := sizeT_le V hm11
        have HSZT := Lib.hid hszT
        have HFV := Lib.hid HS.out.fv
        clear hdn hm11 hszT HS HKR HWO HNE HP HP4 HPL HBL HBO HMK HMK3 HSU HRE HPO HSZ
        generalize w3.heap.size = gf at *
        go_wp2_with fail
        refine wp_label ?_
        go_wp2_with fail
        have HW0 := Lib.hid (show 2 * sizeT V + Q.length ≤ 24000200 by have := HSZT.out; omega)
        have HVL := Lib.hid hvl
        clear hvl hql hp64 HSZT
        go_loopg [12] 24000200 (fun k wv wr => ∃ (V : List (Option KR)) (Q : List Nat), WI l V Q ∧ KM w wr gr gm gf wv V F Q ∧ 2 * sizeT V + Q.length ≤ k ∧ k ≤ 24000200)
        case atStart => exact ⟨V, Q, HWI.out, HM.out, HW0.out, Nat.le_refl _⟩
        case round =>
          clear HWI HM HW0 HVL
          obtain ⟨V, Q, hwi, hM, hgk, hgb⟩ := hrel
          have HVL := Lib.hid hwi.b.len
          rcases List.eq_nil_or_concat Q with rfl | ⟨Q0, i, rfl⟩
          · obtain ⟨oA, oC, hov⟩ := Sl.any hM.wt
            simp only [List.map_nil, List.length_nil] at hov
            subst hov
            have HD := Lib.hid hwi.done
            have HM := Lib.hid hM
            clear hwi hgk hM
            go_wp2_with fail
            rw [Exit.noGoto_ret]
            go_ret2
            refine ⟨V, gr, gm, rfl, HD.out, ?_, ?_, HM.out.kp, HM.out.new.1, HM.out.new.2.1⟩
            · have := HM.out.rows
              rw [HVL.out] at this
              exact this
            · have := HM.out.met
              rw [HVL.out] at this
              exact this
          · rw [List.concat_eq_append] at *
            obtain ⟨r0, hr0, hwj⟩ := hwi.pop
            have hri := hwi.b.rch i r0 hr0
            obtain ⟨hil, his⟩ := rch_ok HZ.out hri
            obtain ⟨x, hx⟩ : ∃ x, l[i]? = some x := ⟨_, List.getElem?_eq_getElem hil⟩
            have hrt := right_of HZ.out hx his
            have hnr0 := hwi.b.num i r0 hr0
            have hyy : x.op = 24 → l[i + 1]? = some (l.getD (i + 1) zeroIn) := fun e => by
              obtain ⟨h1, _⟩ := behind_ok HZ.out hx his (by omega) (by omega) (n := i + 2) (by rw [if_pos e])
              rw [List.getD_eq_getElem?_getD, List.getElem?_eq_getElem (by omega)]
              rfl
            have HBH := Lib.hid (fun W hI => behind_any l a c i x (l.getD (i + 1) zeroIn) r0 W hI HOK.out hx hrt hyy hnr0.1 hnr0.2)
            rw [← flw_beh hx hrt] at HBH
            have hnb : NumOk ((flwL l).beh i r0) := by rw [flw_beh hx hrt]; exact num_beh (HOK.out.at_ hx) hrt hnr0
            have HNX := Lib.hid (fun W hI => fNext_any l a c i x W hI HOK.out HZ.out hx his)
            have HFN := Lib.hid (flw_next hx)
            have hnok : ∀ j ∈ nextC i x, ∃ n : Nat, j = n ∧ n < l.length ∧ Rch l n := fun j hj => by
              obtain ⟨n, e, h1, _⟩ := next_ok HZ.out hx his hj
              refine ⟨n, e, h1, hri.step ?_⟩
              rw [succ_at hx, ← e]
              exact List.mem_append_left _ hj
            have HNOK := Lib.hid hnok
            have hnl := next_len i x
            generalize nextC i x = N at *
            generalize hBB : (flwL l).beh i r0 = B at *
            have HBB := Lib.hid hBB
            have HNB := Lib.hid hnb
            have HWJ := Lib.hid hwj
            have hwt := hM.wt
            rw [nats_snoc] at hwt
            obtain ⟨wg, cap, rfl, hcap, hwl⟩ := Sl.some_ hwt (by simp)
            have hlw : (List.map icell' (natsI Q0 ++ [(i : Int)])).length = Q0.length + 1 := by simp [natsI]
            rw [hlw] at hwt hcap hM ⊢
            have hwc := Ints.cell hwt (i := Q0.length) (x := (i : Int)) (by simp [natsI])
            have hW0 := Ints.pop hwt
            have hcut := cutI wg 0 (Q0.length + 1) cap Q0.length (by omega)
            have hgb2 : Q0.length ≤ 24000200 := by simp at hgk; omega
            have HGK := Lib.hid hgk
            have hln : (natsI Q0).length = Q0.length := by simp [natsI]
            rw [hln] at hW0
            have HM0 := Lib.hid (hM.wait hW0 (Kept.refl _ _) (fun g hg => .inl hg))
            have HRC := Lib.hid (hM.cell hr0 hnr0.1)
            have hrl := Sl.lt hM.rows gr rfl
            have hml := Sl.lt hM.met gm rfl
            have hfl := hM.fst.lt
            have HRL0 := Lib.hid hnr0.1
            clear hwi hr0 hwj hri his hx hrt hnr0 hyy hnb hnok hBB hM hwt hlw hgk hln hW0
            go_wp2_with (refine wpList_loadB rfl _ 88 rfl aggRow HI0.out.1 (rowA r0) (by rw [HI0.out.2.2.1, rowA_sz HRL0.out]) ⟨gr, i * 44, none⟩ (by first | rfl | simp) (fun k u hu => by rw [add_n]; exact HRC.out k u hu) ?_)
            refine (HBH.out _ (HIN.out _ HM0.out.kp)).mono ?_
            rintro e w5 ⟨rfl, hk5⟩
            have HM5 := Lib.hid (HM0.out.quiet hk5)
            have HG5 := Lib.hid (Sl.lt HM5.out.wt wg rfl)
            have HG16 := Lib.hid (show gr < w5.heap.size ∧ gm < w5.heap.size from ⟨Sl.lt HM5.out.rows gr rfl, Sl.lt HM5.out.met gm rfl⟩)
            clear hk5 HBH HM0
            go_wp2_with (refine wpList_storeB rfl _ _ 88 rfl HI0.out.1 w5.heap.size 0 88 (rowA noneR) (rowA B) rfl rfl (by rw [HI0.out.2.2.1, rowA_sz HNB.out.1]) (by rw [rowA_sz HNB.out.1, rowA_sz rfl]; omega) (rowA_one _) (by exact Blk.new w5 _ _) ?_; intro w6 hb6 hk6)
            rw [splice_row rfl HNB.out.1] at hb6
            have hk56 : Kept (fun _ => False) w5 w6 := ((Kept.refl _ w5).alloc _).trans hk6 (fun k hk e => by omega)
            have HM6 := Lib.hid (HM5.out.quiet hk56)
            have HB6 := Lib.hid hb6
            have hg6 := hb6.lt
            have hwl6 := Sl.lt HM6.out.wt wg rfl
            clear hb6 hk6 hk56 HM5
            refine (HNX.out _ (HIN.out _ HM6.out.kp)).mono ?_
            rintro e w7 ⟨⟨nn, nc, na, rfl, hN, hno⟩, hk7⟩
            obtain rfl : nn = N.length := by have := Sl.len hN; simpa using this
            have HM7 := Lib.hid (HM6.out.quiet hk7)
            have HB7 := Lib.hid (hk7.blk (fun e => e) HB6.out)
            have HN7 := Lib.hid hN
            have hsep : ∀ g, (Value.slice (some ⟨wg, 0, none⟩) Q0.length cap).ownBlock = some g → g ≠ w5.heap.size ∧ (Value.slice na N.length nc).ownBlock ≠ some g := fun g hg => by
              have e : wg = g := Option.some.inj hg
              subst e
              refine ⟨?_, fun e2 => by have := hno _ e2; omega⟩
              have h1 := HG5.out
              omega
            have HSEP := Lib.hid hsep
            have HNO := Lib.hid (show ∀ g, (Value.slice na N.length nc).ownBlock = some g → w6.heap.size ≤ g ∧ g < w7.heap.size from fun g hg => ⟨hno g hg, Sl.lt hN g hg⟩)
            have hs67 := hk7.size
            clear hN hno hk7 HM6 HB6 hsep HNX
            generalize w5.heap.size = g16 at *
            go_wp2_with fail
            have HST := Lib.hid (show 2 * sizeT V + Q0.length + 1 ≤ gk from by have := HGK.out; simp at this; omega)
            clear HGK HRC
            go_loopw [96, 12] (fun iv wv wr => ∃ (k : Nat) (V : List (Option KR)) (Q : List Nat), iv = .int .i64 k ∧ k ≤ N.length ∧ WJ l V Q i r0 k ∧ KM w wr gr gm gf wv V F Q ∧ Blk wr g16 88 (rowA B) ∧ Ints wr (.slice na N.length nc) N ∧ (∀ g, wv.ownBlock = some g → g ≠ g16 ∧ (Value.slice na N.length nc).ownBlock ≠ some g) ∧ 2 * sizeT V + Q.length + 1 ≤ gk) (fun iv _ _ => N.length - (intOf iv).toNat)
            case atStart => exact ⟨0, V, Q0, rfl, Nat.zero_le _, HWJ.out, HM7.out, HB7.out, HN7.out, HSEP.out, HST.out⟩
            case round =>
              clear HWJ HM7 HB7 HN7 HSEP HST hwc HRL0 hcut
              obtain ⟨k, V, Q, rfl, hk, hwj, hM, hB, hN, hsep, hst⟩ := hrel
              by_cases hlt : k < N.length
              case neg =>
                obtain rfl : k = N.length := by omega
                have HWE := Lib.hid (hwj.end_ (by rw [HFN.out, List.length_map]; exact Nat.le_refl _))
                have HM := Lib.hid hM
                have HSE := Lib.hid hst
                clear hwj hM hB hN hsep hst
                go_wp2_with fail
                go_roundg (gk - 1)
                case measure => have := HSE.out; omega
                case rel => exact ⟨V, Q, HWE.out, HM.out, by have := HSE.out; omega, by omega⟩
              case pos =>
                obtain ⟨jz, hjz⟩ : ∃ jz, N[k]? = some jz := ⟨_, List.getElem?_eq_getElem hlt⟩
                obtain ⟨n, rfl, hnl2, hnr⟩ := HNOK.out jz (List.mem_of_getElem? hjz)
                obtain ⟨ng, ncap, hnv, hncap, hngl⟩ := Sl.some_ hN (by rw [List.length_map]; omega)
                rw [List.length_map] at hnv
                cases hnv
                have hnc := Ints.cell hN hjz
                have hfj : ((flwL l).next i)[k]? = some n := by rw [HFN.out, List.getElem?_map, hjz]; simp
                obtain ⟨v, hv⟩ : ∃ v, V[n]? = some v := ⟨_, List.getElem?_eq_getElem (by rw [hwj.b.len]; exact hnl2)⟩
                have hlk := hM.fst.look2 (P := Tryz.prog) (t := 149) Tryz.underlying149 Tryz.underlying3 infoZS (n : Int)
                have hz : (lookI F (n : Int)).getD (.agg #[]) = .agg #[] := by
                  cases e : lookI F (n : Int) with
                  | none => rfl
                  | some u => exact HFV.out _ _ e
                rw [hz] at hlk
                have hfi := HFI.out (n : Int)
                have hfi2 : (lookI F (n : Int)).isSome = true ↔ (flwL l).first n := by
                  rw [hfi]
                  exact ⟨fun ⟨m, e, h⟩ => by rw [show n = m from Int.ofNat_inj.1 e]; exact h, fun h => ⟨n, rfl, h⟩⟩
                have HFI2 := Lib.hid hfi2
                generalize (lookI F (n : Int)).isSome = fb at *
                have HFJ := Lib.hid hfj
                have HV := Lib.hid hv
                have HWJ := Lib.hid hwj
                have HM := Lib.hid hM
                have HB := Lib.hid hB
                have HN := Lib.hid hN
                have HSEP := Lib.hid hsep
                have HST := Lib.hid hst
                have HNR := Lib.hid hnr
                clear hz hfi hfi2 hfj hv hwj hM hB hN hsep hst hnr hjz hncap
                have HLT := Lib.hid (show gr < wr.heap.size ∧ gm < wr.heap.size ∧ gf < wr.heap.size ∧ (∀ o, u12.ownBlock = some o → o < wr.heap.size) ∧ g16 < wr.heap.size ∧ ng < wr.heap.size from ⟨Sl.lt HM.out.rows gr rfl, Sl.lt HM.out.met gm rfl, HM.out.fst.lt, fun o ho => Sl.lt HM.out.wt o ho, HB.out.lt, Sl.lt HN.out ng rfl⟩)
                cases fb
                · cases v with
                  | none =>
                    go_wp2_with (first | (refine wpList_loadB rfl _ 88 rfl aggRow HI0.out.1 (rowA B) (by rw [HI0.out.2.2.1, rowA_sz HNB.out.1]) ⟨g16, 0, none⟩ rfl (fun k u hu => by rw [add_n, (HB.out.alloc _).cell, Nat.zero_add]; exact hu) ?_) | (refine wpList_storeB rfl _ _ 88 rfl HI0.out.1 (wr.heap.size + 1) 0 88 (rowA noneR) (rowA B) rfl rfl (by rw [HI0.out.2.2.1, rowA_sz HNB.out.1]) (by rw [rowA_sz HNB.out.1, rowA_sz rfl]; omega) (rowA_one _) (by have h := Blk.new (wr.alloc (.cells #[] 150)) 88 (rowA noneR); rw [show (wr.alloc (.cells #[] 150)).heap.size = wr.heap.size + 1 by simp] at h; exact h) ?_; intro w8 hb8 hk8; rw [splice_row rfl HNB.out.1] at hb8; have hk8' := (((Kept.refl (fun _ => False) wr).alloc (.cells #[] 150)).alloc _).trans hk8 (fun k hk e => by omega); have HM8 := Lib.hid (HM.out.quiet hk8'); have HB8 := Lib.hid (And.intro hb8 (hk8'.blk (fun e => e) HB.out)); have HN8 := Lib.hid (Sl.kept hk8' HN.out (fun _ _ e => e)); have hs8 := hk8'.size; have h23 := hb8.lt; have hmc : w8.cell? ⟨gm, n, none⟩ = some (.bool false) := (HM8.out.mark_cell HV.out); clear hb8 hk8 hk8' HM HB HN))
                    refine wp_region_mix0 [.w, .w, .w, .l, .w, .l, .w, .w, .w, .l, .l, .w] (by kernel_rfl) (by kernel_rfl) ?_
                    refine mix_w1 ?_; go_big_quiet_step (fail); refine wpQuiet_nil ?_
                    refine mix_w1 ?_; go_big_quiet_step (fail); refine wpQuiet_nil ?_
                    refine mix_w1 ?_; go_big_quiet_step (fail); refine wpQuiet_nil ?_
                    refine mix_l1 rfl ?_; go_big_quiet_step (fail); refine wpQuiet_nil ?_
                    refine mix_w1 ?_; go_big_quiet_step (fail); refine wpQuiet_nil ?_
                    refine mix_l1 rfl ?_; go_big_quiet_step (fail); refine wpQuiet_nil ?_
                    refine mix_w1 ?_; go_big_quiet_step (fail); refine wpQuiet_nil ?_
                    refine mix_w1 ?_; go_big_quiet_step (fail); refine wpQuiet_nil ?_
                    refine mix_w1 ?_; go_big_quiet_step (fail); refine wpQuiet_nil ?_
                    refine mix_l1 rfl ?_; go_big_quiet_step (fail); refine wpQuiet_nil ?_
                    refine mix_l1 rfl ?_; go_big_quiet_step (fail); refine wpQuiet_nil ?_
                    refine mix_w1 ?_; go_big_quiet_step (fail); refine wpQuiet_nil ?_
                    refine mix_nil ?_
                    have hnV : n < V.length := (List.getElem?_eq_some_iff.1 HV.out).1
                    have HMx := Lib.hid HM8.out.drew
                    have HBx := Lib.hid (show Blk w8.drew (wr.heap.size + 1) 88 (rowA B) ∧ Blk w8.drew g16 88 (rowA B) from HB8.out)
                    have HNx := Lib.hid (show Ints w8.drew (.slice (some ⟨ng, 0, none⟩) N.length nc) N from HN8.out)
                    clear HM8 HB8 HN8 hmc
                    generalize w8.drew = wx at *
                    go_wp2_with (first | (refine wpList_loadB rfl _ 88 rfl aggRow HI0.out.1 (rowA B) (by rw [HI0.out.2.2.1, rowA_sz HNB.out.1]) ⟨wr.heap.size + 1, 0, none⟩ rfl (fun k u hu => by rw [add_n]; show wx.cell? _ = _; rw [HBx.out.1.cell, Nat.zero_add]; exact hu) ?_) | (refine wpList_storeElem (rowC B) rfl _ _ 88 rfl HI0.out.1 HI0.out.2.2.1 gr V.length V.length n (V.map vrow) rfl (by rfl) (by rw [flat_len, HNB.out.1]) (rowC_one _) (by exact HMx.out.rows) (by rw [List.length_map]; exact hnV) ?_; intro w9 hR9 hk9; have hk9' : Kept (fun k => k = gr) wx w9 := hk9; have hm9 := Sl.kept hk9' HMx.out.met (fun g hg e => by have e1 : gm = g := Option.some.inj hg; have := HMx.out.ne; omega); have HM9 := Lib.hid (HMx.out.put (i := n) (r := B) hnV hR9 hk9'); have hfz := Sl.frozen hm9 n; have hc9 : ∃ b, w9.cell? ⟨gm, n, none⟩ = some (.bool b) := ⟨_, Bls.cell hm9 (i := n) (x := (V.map (·.isSome))[n]'(by rw [List.length_map]; exact hnV)) (List.getElem?_eq_getElem _)⟩; obtain ⟨b9, hb9⟩ := hc9; have HK9 := Lib.hid hk9'; clear hm9 hR9 hk9 hk9') | (at_builtin; refine wpList_pushI' (w := w9.setCell ⟨gm, n, none⟩ (.bool true)) rfl _ _ rfl u12 (natsI Q) (n : Int) (by simp) rfl rfl HM9.out.wt (by have := HST.out; rw [List.length_map]; omega) ?_; intro v10 w10 hW10 hk10 hown10))
                    have hks : Kept (fun g => g = gm) w9 (w9.setCell ⟨gm, n, none⟩ (.bool true)) := Kept.setCell (F := fun g => g = gm) (Kept.refl _ w9) (fun _ => rfl) _
                    have hsz9 := HK9.out.size
                    have hgb := HBx.out.2.lt
                    have hgn := Sl.lt HNx.out ng rfl
                    have hno := HNO.out ng rfl
                    have hnw := HWJ.out.set HFJ.out HV.out (fun h => by have := HFI2.out.2 h; cases this) HNR.out (by rw [HBB.out]; exact HNB.out)
                    rw [HBB.out] at hnw
                    refine ⟨⟨k + 1, V.set n (some B), Q ++ [n], by simp, by omega, hnw, HM9.out.wait (by rw [nats_snoc]; exact hW10) hk10 hown10, ?_, ?_, fun g hg => ?_, ?_⟩, ?_⟩
                    · have h1 := HK9.out.blk (by have := HG16.out; omega) HBx.out.2
                      have h2 := hks.blk (by have := HG16.out; omega) h1
                      exact hk10.blk (fun e => (HSEP.out g16 e).1 rfl) h2
                    · have h1 := Sl.kept HK9.out HNx.out (fun g hg e => by have e1 : ng = g := Option.some.inj hg; have := HG16.out; omega)
                      have h2 := Sl.kept hks h1 (fun g hg e => by have e1 : ng = g := Option.some.inj hg; have := HG16.out; omega)
                      exact Sl.kept hk10 h2 (fun g hg e => (HSEP.out g e).2 hg)
                    · rcases hown10 g hg with h | h
                      · exact HSEP.out g h
                      · have h5 : w9.heap.size ≤ g := by simpa using h
                        exact ⟨by omega, fun e => by have e1 : ng = g := Option.some.inj e; omega⟩
                    · have h1 := sizeO_lt (v := none) (b := B) HNB.out.1 (fun r hr => (HWJ.out.b.num n r (by rw [HV.out, hr])).1) (by simp)
                      have h2 := sizeT_set (u := some B) HV.out
                      have h3 := HST.out
                      have h4 : sizeO (some B) < sizeO none := h1
                      rw [List.length_append, List.length_singleton]
                      omega
                    · show N.length - ((k : Int) + 1).toNat < N.length - ((k : Int)).toNat
                      omega
                  | some r =>
                    go_wp2_with (first | (refine wpList_loadB rfl _ 88 rfl aggRow HI0.out.1 (rowA B) (by rw [HI0.out.2.2.1, rowA_sz HNB.out.1]) ⟨g16, 0, none⟩ rfl (fun k u hu => by rw [add_n, (HB.out.alloc _).cell, Nat.zero_add]; exact hu) ?_) | (refine wpList_storeB rfl _ _ 88 rfl HI0.out.1 (wr.heap.size + 1) 0 88 (rowA noneR) (rowA B) rfl rfl (by rw [HI0.out.2.2.1, rowA_sz HNB.out.1]) (by rw [rowA_sz HNB.out.1, rowA_sz rfl]; omega) (rowA_one _) (by have h := Blk.new (wr.alloc (.cells #[] 150)) 88 (rowA noneR); rw [show (wr.alloc (.cells #[] 150)).heap.size = wr.heap.size + 1 by simp] at h; exact h) ?_; intro w8 hb8 hk8; rw [splice_row rfl HNB.out.1] at hb8; have hk8' := (((Kept.refl (fun _ => False) wr).alloc (.cells #[] 150)).alloc _).trans hk8 (fun k hk e => by omega); have HM8 := Lib.hid (HM.out.quiet hk8'); have HB8 := Lib.hid (And.intro hb8 (hk8'.blk (fun e => e) HB.out)); have HN8 := Lib.hid (Sl.kept hk8' HN.out (fun _ _ e => e)); have hs8 := hk8'.size; have h23 := hb8.lt; have hmc : w8.cell? ⟨gm, n, none⟩ = some (.bool true) := (HM8.out.mark_cell HV.out); clear hb8 hk8 hk8' HM HB HN))
                    have hnV : n < V.length := (List.getElem?_eq_some_iff.1 HV.out).1
                    have hrl3 : ((some r).getD noneR).length = 11 := (HWJ.out.b.num n r HV.out).1
                    have hrl4 : r.length = 11 := hrl3
                    have hml4 : (meetR r B).length = 11 := by rw [meetR_len (by rw [hrl4, HNB.out.1]), hrl4]
                    have HC := Lib.hid (show (fun W => KM w W gr gm gf u12 V F Q ∧ Blk W (wr.heap.size + 1) 88 (rowA B) ∧ Blk W g16 88 (rowA B) ∧ Ints W (.slice (some ⟨ng, 0, none⟩) N.length nc) N) w8.drew from ⟨HM8.out.drew, HB8.out.1, HB8.out.2, HN8.out⟩)
                    clear hmc HM8 HB8 HN8
                    refine wp_region_mix [.w, .w, .w, .l, .l, .k, .t] (by kernel_rfl) (by kernel_rfl) (fun W => KM w W gr gm gf u12 V F Q ∧ Blk W (wr.heap.size + 1) 88 (rowA B) ∧ Blk W g16 88 (rowA B) ∧ Ints W (.slice (some ⟨ng, 0, none⟩) N.length nc) N) ?_
                    generalize w8.drew = w8d at *
                    refine mix_w1 ?_; go_big_quiet_step (fail); refine wpQuiet_nil ?_
                    refine mix_w1 ?_; go_big_quiet_step (fail); refine wpQuiet_nil ?_
                    refine mix_w1 ?_; go_big_quiet_step (fail); refine wpQuiet_nil ?_
                    refine mix_loadB HC.out rfl _ 88 rfl aggRow HI0.out.1 (rowA r) (by rw [HI0.out.2.2.1, rowA_sz hrl4]) ⟨gr, n * 44, none⟩ (by first | rfl | simp) (fun w' hb k u hu => by rw [add_n]; exact hb.1.cell HV.out hrl3 k u hu) ?_
                    try simp only [Act.put, List.setIfInBounds_toArray, List.set_cons_succ, List.set_cons_zero]
                    refine mix_loadB HC.out rfl _ 88 rfl aggRow HI0.out.1 (rowA B) (by rw [HI0.out.2.2.1, rowA_sz HNB.out.1]) ⟨g16, 0, none⟩ (by first | rfl | simp) (fun w' hb k u hu => by rw [add_n]; rw [hb.2.2.1.cell, Nat.zero_add]; exact hu) ?_
                    try simp only [Act.put, List.setIfInBounds_toArray, List.set_cons_succ, List.set_cons_zero]
                    refine mix_k (by exact HC.out) fun Q' hQ' => ?_
                    go_wp2_with fail
                    refine (meet_any r B _ hrl4 HNB.out.1).mono ?_
                    rintro e wm ⟨rfl, hkm⟩
                    have HCm := Lib.hid (show (fun W => KM w W gr gm gf u12 V F Q ∧ Blk W (wr.heap.size + 1) 88 (rowA B) ∧ Blk W g16 88 (rowA B) ∧ Ints W (.slice (some ⟨ng, 0, none⟩) N.length nc) N) wm from ⟨HC.out.1.quiet hkm, hkm.blk (fun e => e) HC.out.2.1, hkm.blk (fun e => e) HC.out.2.2.1, Sl.kept hkm HC.out.2.2.2 (fun _ _ e => e)⟩)
                    have hsm := hkm.size
                    go_wp2_with fail
                    refine hQ' _ _ HCm.out ?_
                    clear hQ' Q' hkm HC
                    refine mix_t fun Q' hQ' => ?_
                    refine wpList_storeB rfl _ _ 88 rfl HI0.out.1 (wr.heap.size + 1) 0 88 (rowA B) (rowA (meetR r B)) rfl rfl (by rw [HI0.out.2.2.1, rowA_sz hml4]) (by rw [rowA_sz hml4, rowA_sz HNB.out.1]; omega) (rowA_one _) (by exact HCm.out.2.1) ?_
                    intro ws hbs hks0
                    rw [splice_row HNB.out.1 hml4] at hbs
                    refine hQ' _ _ ?_
                    clear hQ' Q'
                    have HCs := Lib.hid (show (fun W => KM w W gr gm gf u12 V F Q ∧ Blk W (wr.heap.size + 1) 88 (rowA (meetR r B)) ∧ Blk W g16 88 (rowA B) ∧ Ints W (.slice (some ⟨ng, 0, none⟩) N.length nc) N) ws from ⟨HCm.out.1.far hks0 (by have := HLT.out; exact ⟨by omega, by omega, by omega, fun o ho => by have := HLT.out.2.2.2.1 o ho; omega⟩), hbs, hks0.blk (by have := HLT.out; omega) HCm.out.2.2.1, Sl.kept hks0 HCm.out.2.2.2 (fun g hg e => by have e1 : ng = g := Option.some.inj hg; have := HLT.out; omega)⟩)
                    clear HCm hbs hks0
                    refine mix_nil ?_
                    go_wp2_with fail
                    have HCd := Lib.hid (show (fun W => KM w W gr gm gf u12 V F Q ∧ Blk W (wr.heap.size + 1) 88 (rowA (meetR r B)) ∧ Blk W g16 88 (rowA B) ∧ Ints W (.slice (some ⟨ng, 0, none⟩) N.length nc) N) ws.drew from ⟨HCs.out.1.drew, HCs.out.2.1, HCs.out.2.2.1, HCs.out.2.2.2⟩)
                    clear HCs
                    refine wp_region_mix [.w, .w, .w, .l, .w, .l, .w, .w, .w, .l, .l, .w] (by kernel_rfl) (by kernel_rfl) (fun W => KM w W gr gm gf u12 V F Q ∧ Blk W (wr.heap.size + 1) 88 (rowA (meetR r B)) ∧ Blk W g16 88 (rowA B) ∧ Ints W (.slice (some ⟨ng, 0, none⟩) N.length nc) N) ?_
                    generalize ws.drew = wsd at *
                    refine mix_w1 ?_; go_big_quiet_step (fail); refine wpQuiet_nil ?_
                    refine mix_w1 ?_; go_big_quiet_step (fail); refine wpQuiet_nil ?_
                    refine mix_w1 ?_; go_big_quiet_step (fail); refine wpQuiet_nil ?_
                    refine mix_load1 HCd.out rfl 4 _ rfl (fun w => by kernel_rfl) ⟨gm, n, none⟩ (.bool true) (by first | rfl | simp) (fun w' hb => hb.1.mark_cell HV.out) ?_
                    try simp only [Act.put, List.setIfInBounds_toArray, List.set_cons_succ, List.set_cons_zero]
                    refine mix_w1 ?_; go_big_quiet_step (fail); refine wpQuiet_nil ?_
                    refine mix_loadBG HCd.out (by rfl) _ 88 rfl aggRow HI0.out.1 (rowA (meetR r B)) (by rw [HI0.out.2.2.1, rowA_sz hml4]) ⟨wr.heap.size + 1, 0, none⟩ (by first | rfl | simp) (fun w' hb k u hu => by rw [add_n]; rw [hb.2.1.cell, Nat.zero_add]; exact hu) ?_
                    try simp only [Act.put, List.setIfInBounds_toArray, List.set_cons_succ, List.set_cons_zero]
                    refine mix_w1 ?_; go_big_quiet_step (fail); refine wpQuiet_nil ?_
                    refine mix_w1 ?_; go_big_quiet_step (fail); refine wpQuiet_nil ?_
                    refine mix_w1 ?_; go_big_quiet_step (fail); refine wpQuiet_nil ?_
                    refine mix_loadBG HCd.out (by rfl) _ 88 rfl aggRow HI0.out.1 (rowA r) (by rw [HI0.out.2.2.1, rowA_sz hrl4]) ⟨gr, n * 44, none⟩ (by first | rfl | simp) (fun w' hb k u hu => by rw [add_n]; exact hb.1.cell HV.out hrl3 k u hu) ?_
                    try simp only [Act.put, List.setIfInBounds_toArray, List.set_cons_succ, List.set_cons_zero]
                    refine mix_binG HCd.out (by rfl) .eql 88 _ _ _ rfl (.agg (rowA (meetR r B))) (.agg (rowA r)) (.bool (decide ((meetR r B) = r))) rfl rfl (fun w' => run_eqGuard_agg w' _ _ _ _ _ _ (by kernel_rfl)) (fun w' => row_eql _ Tryz.underlying88 _ _ hml4 hrl4 w') ?_
                    try simp only [Act.put, List.setIfInBounds_toArray, List.set_cons_succ, List.set_cons_zero]
                    generalize hdq : decide ((meetR r B) = r) = dq
                    have HDQ := Lib.hid hdq
                    clear hdq
                    refine mix_w1 ?_; go_big_quiet_step (fail); refine wpQuiet_nil ?_
                    refine mix_nil ?_
                    cases dq
                    · have HNQ := Lib.hid (show (meetR r B) ≠ r from of_decide_eq_false HDQ.out)
                      have HMx := Lib.hid HCd.out.1
                      have HBx := Lib.hid (And.intro HCd.out.2.1 HCd.out.2.2.1)
                      have HNx := Lib.hid HCd.out.2.2.2
                      clear HCd
                      go_wp2_with (first | (refine wpList_loadB rfl _ 88 rfl aggRow HI0.out.1 (rowA (meetR r B)) (by rw [HI0.out.2.2.1, rowA_sz hml4]) ⟨wr.heap.size + 1, 0, none⟩ rfl (fun k u hu => by rw [add_n]; show wsd.cell? _ = _; rw [HBx.out.1.cell, Nat.zero_add]; exact hu) ?_) | (refine wpList_storeElem (rowC (meetR r B)) rfl _ _ 88 rfl HI0.out.1 HI0.out.2.2.1 gr V.length V.length n (V.map vrow) rfl (by rfl) (by rw [flat_len, hml4]) (rowC_one _) (by exact HMx.out.rows) (by rw [List.length_map]; exact hnV) ?_; intro w9 hR9 hk9; have hk9' : Kept (fun k => k = gr) wsd w9 := hk9; have hm9 := Sl.kept hk9' HMx.out.met (fun g hg e => by have e1 : gm = g := Option.some.inj hg; have := HMx.out.ne; omega); have HM9 := Lib.hid (HMx.out.put (i := n) (r := (meetR r B)) hnV hR9 hk9'); have hfz := Sl.frozen hm9 n; have hc9 : ∃ b, w9.cell? ⟨gm, n, none⟩ = some (.bool b) := ⟨_, Bls.cell hm9 (i := n) (x := (V.map (·.isSome))[n]'(by rw [List.length_map]; exact hnV)) (List.getElem?_eq_getElem _)⟩; obtain ⟨b9, hb9⟩ := hc9; have HK9 := Lib.hid hk9'; clear hm9 hR9 hk9 hk9') | (at_builtin; refine wpList_pushI' (w := w9.setCell ⟨gm, n, none⟩ (.bool true)) rfl _ _ rfl u12 (natsI Q) (n : Int) (by simp) rfl rfl HM9.out.wt (by have := HST.out; rw [List.length_map]; omega) ?_; intro v10 w10 hW10 hk10 hown10))
                      have hks : Kept (fun g => g = gm) w9 (w9.setCell ⟨gm, n, none⟩ (.bool true)) := Kept.setCell (F := fun g => g = gm) (Kept.refl _ w9) (fun _ => rfl) _
                      have hsz9 := HK9.out.size
                      have hgb := HBx.out.2.lt
                      have hgn := Sl.lt HNx.out ng rfl
                      have hno := HNO.out ng rfl
                      have hnw := HWJ.out.set HFJ.out HV.out (fun h => by have := HFI2.out.2 h; cases this) HNR.out (by rw [HBB.out]; exact HNB.out)
                      rw [HBB.out] at hnw
                      refine ⟨⟨k + 1, V.set n (some (meetR r B)), Q ++ [n], by simp, by omega, hnw, HM9.out.wait (by rw [nats_snoc]; exact hW10) hk10 hown10, ?_, ?_, fun g hg => ?_, ?_⟩, ?_⟩
                      · have h1 := HK9.out.blk (by have := HG16.out; omega) HBx.out.2
                        have h2 := hks.blk (by have := HG16.out; omega) h1
                        exact hk10.blk (fun e => (HSEP.out g16 e).1 rfl) h2
                      · have h1 := Sl.kept HK9.out HNx.out (fun g hg e => by have e1 : ng = g := Option.some.inj hg; have := HG16.out; omega)
                        have h2 := Sl.kept hks h1 (fun g hg e => by have e1 : ng = g := Option.some.inj hg; have := HG16.out; omega)
                        exact Sl.kept hk10 h2 (fun g hg e => (HSEP.out g e).2 hg)
                      · rcases hown10 g hg with h | h
                        · exact HSEP.out g h
                        · have h5 : w9.heap.size ≤ g := by simpa using h
                          exact ⟨by omega, fun e => by have e1 : ng = g := Option.some.inj e; omega⟩
                      · have h1 := sizeO_lt (v := (some r)) (b := B) HNB.out.1 (fun r hr => (HWJ.out.b.num n r (by rw [HV.out, hr])).1) (fun e => HNQ.out (Option.some.inj e))
                        have h2 := sizeT_set (u := some (meetR r B)) HV.out
                        have h3 := HST.out
                        have h4 : sizeO (some (meetR r B)) < sizeO (some r) := h1
                        rw [List.length_append, List.length_singleton]
                        omega
                      · show N.length - ((k : Int) + 1).toNat < N.length - ((k : Int)).toNat
                        omega
                    · have hme : (meetR r B) = r := of_decide_eq_true HDQ.out
                      go_wp2_with fail
                      refine ⟨⟨k + 1, V, Q, by simp, by omega, HWJ.out.skip HFJ.out HV.out (by rw [HBB.out]; show LeR r B; rw [← hme]; exact meetR_right (by rw [hrl4, HNB.out.1])), HCd.out.1, HCd.out.2.2.1, HCd.out.2.2.2, HSEP.out, HST.out⟩, ?_⟩
                      show N.length - ((k : Int) + 1).toNat < N.length - ((k : Int)).toNat
                      omega
                · have hfst : (flwL l).first n := HFI2.out.1 rfl
                  have hka : Kept (fun _ => False) wr (wr.alloc (.cells #[] 150)) := (Kept.refl _ wr).alloc _
                  have hvn : v = some noneR := by
                    have h1 := HV.out
                    rw [HWJ.out.b.fst n hfst] at h1
                    exact (Option.some.inj h1).symm
                  go_wp2_with fail
                  refine ⟨⟨k + 1, V, Q, by simp, by omega, HWJ.out.skip HFJ.out HV.out (by rw [hvn, HBB.out]; exact none_le HNB.out.1), HM.out.quiet hka, HB.out.alloc _, Sl.alloc HN.out _, HSEP.out, HST.out⟩, ?_⟩
                  show N.length - ((k : Int) + 1).toNat < N.length - ((k : Int)).toNat
                  omega
      case pos =>
        obtain ⟨p, hp⟩ : ∃ p, (partsL l)[k]? = some p := ⟨_, List.getElem?_eq_getElem (by omega)⟩
        obtain ⟨f, t, rfl, hft, htl⟩ := HPO.out.nat hp
        have hPr := Sl.kept HKR.out HP4.out.1 (fun g hg e => by have := HNE.out g (.inl hg); omega)
        have hBr := Sl.kept HKR.out HP4.out.2 (fun g hg e => by have := HNE.out g (.inr hg); omega)
        obtain ⟨sg, scap, hsv, hgl, hc0, hc1⟩ := Pts.at_ hPr hp
        cases hsv
        obtain ⟨og, ocap, hov, hocap, hgo⟩ := Sl.some_ hBr (by rw [List.length_map, rchL_len]; omega)
        rw [List.length_map, rchL_len] at hov
        have hcb := Bls.cell (hov ▸ hBr) (rchL_get (k := f) (by omega))
        subst hov
        have HPP := Lib.hid hp
        generalize hrb : (@decide (Rch l f) (Classical.propDecidable _)) = rb at *
        have HRB := Lib.hid hrb
        clear hp hPr hBr hrb
        have hKa := (Kept.refl (fun _ => False) wr).alloc (.cells #[.int .i64 f, .int .i64 t] 97)
        have hKMa := HM.out.quiet hKa
        have hsa : (wr.alloc (.cells #[.int .i64 f, .int .i64 t] 97)).heap.size = wr.heap.size + 1 := by simp
        have hbS := Blk.new wr 97 #[.int .i64 f, .int .i64 t]
        have HA := Lib.hid (And.intro hKMa (And.intro hbS (And.intro hKa hsa)))
        clear hKa hKMa hsa hbS
        cases rb
        · go_wp2_with fail
          refine ⟨⟨k + 1, V, F, Q, by simp, by omega, HS.out.no HPP.out (@of_decide_eq_false _ (Classical.propDecidable _) HRB.out), HA.out.1, HKR.out.trans HA.out.2.2.1 (fun _ _ e => e.elim), HWO.out⟩, ?_⟩
          show (partsL l).length - ((k : Int) + 1).toNat < (partsL l).length - ((k : Int)).toNat
          omega
        · have hgs := HM.out.rows
          have hlr := Sl.lt HM.out.rows gr rfl
          have hlm := Sl.lt HM.out.met gm rfl
          have hlf := HM.out.fst.lt
          have hVf : V[f]? = some none ∨ V[f]? = some (some noneR) := by
            have hv := List.getElem?_eq_getElem (l := V) (i := f) (by omega)
            cases hvf : V[f]'(by omega) with
            | none => left; rw [hv, hvf]
            | some r =>
              right
              rw [hv, hvf, (HS.out.som f r (by rw [hv, hvf])).1]
          have HVF := Lib.hid hVf
          clear hVf
          go_wp2_with (first | (refine wpList_updI rfl _ _ _ 149 rfl Tryz.underlying149 Tryz.underlying3 HA.out.1.fst (f : Int) (.agg #[]) rfl rfl rfl ?_; intro w5 hF5 hk5; have HM5 := Lib.hid (HA.out.1.upd hF5 hk5); have hb5 := hk5.blk (by omega) HA.out.2.1; have HK5 := Lib.hid hk5; clear hF5 hk5; have qf : w5.cell? ⟨wr.heap.size, 0, none⟩ = some (.int .i64 f) := (by rw [hb5.cell]; rfl); have HB5 := Lib.hid hb5; clear hb5; have hfz := Sl.frozen HM5.out.met f; have hcm : ∃ b, w5.cell? ⟨gm, f, none⟩ = some (.bool b) := ⟨_, Bls.cell HM5.out.met (i := f) (x := (V.map (·.isSome))[f]'(by rw [List.length_map]; omega)) (List.getElem?_eq_getElem _)⟩; obtain ⟨bm, hbm⟩ := hcm; have HM6 := Lib.hid (HM5.out.mark (i := f) (by omega) HVF.out)) | (at_builtin; refine wpList_pushI' (w := w5.setCell ⟨gm, f, none⟩ (.bool true)) rfl _ _ rfl u12 (natsI Q) (f : Int) (by simp) rfl rfl HM6.out.wt (by rw [List.length_map]; omega) ?_; intro v7 w7 hW7 hk7 hown7))
          have hsw : w4.heap.size ≤ w5.heap.size := by
            have h1 := HKR.out.size
            have h2 := HK5.out.size
            have h3 := HA.out.2.2.2
            omega
          have hks : Kept (fun g => g = gm) w5 (w5.setCell ⟨gm, f, none⟩ (.bool true)) := Kept.setCell (F := fun g => g = gm) (Kept.refl _ w5) (fun _ => rfl) _
          refine ⟨⟨k + 1, _, _, Q ++ [f], by simp, by omega, HS.out.yes HPP.out (by omega) (@of_decide_eq_true _ (Classical.propDecidable _) HRB.out), HM6.out.wait (by rw [nats_snoc]; exact hW7) hk7 hown7, ?_, fun g hg => ?_⟩, ?_⟩
          · exact (((HKR.out.trans HA.out.2.2.1 (fun _ _ e => e.elim)).trans HK5.out (fun g _ e => .inr e)).trans hks (fun g _ e => .inl e)).trans hk7 (fun g hg e => by have := HWO.out g e; omega)
          · rcases hown7 g hg with h | h
            · exact HWO.out g h
            · have h5 : w5.heap.size ≤ g := by simpa using h
              omega
          · show (partsL l).length - ((k : Int) + 1).toNat < (partsL l).length - ((k : Int)).toNat
            omega

end Go.Proofs.YtdchmelgaljpfaaGreat

set_option linter.unusedSimpArgs false
set_option linter.unusedVariables false
namespace Go.Proofs.YtdchmelgaljpfaaGreat
open Go.RowKit

theorem infoArr3 : (Tryz.prog.info? 33).map (fun i => (i.zero, i.size, i.bytes)) = some (some (.agg (rowA noneR)), 44, 352) := by kernel_rfl
/-- rows that are filled in from the first on -/
def outR (V : List (Option KR)) (k : Nat) : List (List Value) := (V.map vrow).take k ++ List.replicate (V.length - k) (rowC noneR)
theorem outR_len {V : List (Option KR)} {k : Nat} (hk : k ≤ V.length) : (outR V k).length = V.length := by
  unfold outR
  rw [List.length_append, List.length_take, List.length_map, List.length_replicate]
  omega
theorem outR_zero (V : List (Option KR)) : outR V 0 = List.replicate V.length (rowC noneR) := by simp [outR]
theorem outR_end (V : List (Option KR)) : outR V V.length = V.map vrow := by
  unfold outR
  rw [List.take_of_length_le (by rw [List.length_map]; exact Nat.le_refl _), Nat.sub_self]
  simp
theorem outR_succ {V : List (Option KR)} {k : Nat} {v : Option KR} (hv : V[k]? = some v) : outR V (k + 1) = (outR V k).set k (vrow v) := by
  have hk := (List.getElem?_eq_some_iff.1 hv).1
  unfold outR
  rw [List.take_add_one, List.getElem?_map, hv]
  simp only [Option.map_some, Option.toList]
  rw [List.set_append_right _ _ (by rw [List.length_take, List.length_map]; omega), List.length_take, List.length_map, Nat.min_eq_left (by omega), Nat.sub_self]
  rw [show V.length - k = (V.length - (k + 1)) + 1 by omega, List.replicate_succ, List.set_cons_zero, List.append_assoc]
  rfl
theorem outR_same {V : List (Option KR)} {k : Nat} (hv : V[k]? = some none) : outR V (k + 1) = outR V k := by
  have hk := (List.getElem?_eq_some_iff.1 hv).1
  unfold outR
  rw [List.take_add_one, List.getElem?_map, hv]
  simp only [Option.map_some, Option.toList]
  rw [show V.length - k = (V.length - (k + 1)) + 1 by omega, List.replicate_succ, List.append_assoc]
  rfl

set_option maxHeartbeats 8000000 in
set_option maxRecDepth 100000 in
theorem fKnown_any (l : List In) (a : Option Addr) (c : Nat) (w : World) (h : Ins w (.slice a l.length c) l) (hok : InsOk l) :
    Calls Tryz.prog 7 #[.slice a l.length c] w fun e w' => ∃ ov, e = .returned (.tuple #[ov, .int .i64 (checkI l)]) ∧ (checkI l ≠ 0 → ov = .slice none 0 0) ∧ (checkI l = 0 → ∃ V, KIs l V ∧ Sl w' 33 44 ov (V.map vrow)) ∧ Kept (fun _ => False) w w' ∧ ∀ g, ov.ownBlock = some g → w.heap.size ≤ g := by
  have hlen := hok.len
  have HCK := Lib.hid (fun W hI => icheck_any l a c W hI hok)
  have HKN := Lib.hid (fun W hI hz => known_rows l a c W hI hok hz)
  have HIN := Lib.hid (fun (W : World) (hk : Kept (fun _ => False) w W) => h.kept hk)
  clear h hok
  obtain ⟨i0, hI0, hI1, hI2, hI3⟩ := info_parts infoArr3
  have HI0 := Lib.hid (And.intro hI0 (And.intro hI1 (And.intro hI2 hI3)))
  obtain ⟨j0, hJ0, hJ1, hJ2, hJ3⟩ := info_parts infoRow3
  have HJ0 := Lib.hid (And.intro hJ0 (And.intro hJ1 (And.intro hJ2 hJ3)))
  clear hI0 hI1 hI2 hI3 hJ0 hJ1 hJ2 hJ3
  by_cases hz : checkI l = 0
  case neg =>
    have hz2 : (checkI l != 0) = true := by simpa using hz
    have HZ := Lib.hid hz
    clear hz
    generalize checkI l = ce at *
    go_enter Tryz.func7, Tryz.ntmps7
    go_wp2_with fail
    refine (HCK.out _ (HIN.out _ (Kept.refl _ w))).mono ?_
    rintro e w1 ⟨⟨p, rfl⟩, hk1⟩
    go_wp2_with fail
    go_ret2
    exact ⟨_, rfl, fun _ => rfl, fun e => absurd e HZ.out, hk1, fun g hg => by simp [Value.ownBlock] at hg⟩
  case pos =>
    rw [hz] at HCK
    have HKN := Lib.hid (fun W hI => HKN.out W hI hz)
    simp only [hz]
    have HZ := Lib.hid hz
    clear hz
    go_enter Tryz.func7, Tryz.ntmps7
    go_wp2_with fail
    refine (HCK.out _ (HIN.out _ (Kept.refl _ w))).mono ?_
    rintro e w1 ⟨⟨p, rfl⟩, hk1⟩
    go_wp2_with fail
    refine (HKN.out _ (HIN.out _ hk1)).mono ?_
    rintro e w2 ⟨V, gr, gm, rfl, hKI, hR, hM, hk2, hgr, hgm⟩
    have hK2 := hk1.trans hk2 (fun _ _ e => e)
    have HKI := Lib.hid hKI
    have HVL := Lib.hid hKI.b.len
    have HRM := Lib.hid (And.intro hR (And.intro hM hK2))
    have hrl := Sl.lt hR gr rfl
    have hml := Sl.lt hM gm rfl
    clear hKI hR hM hk1 hk2 hK2 hgr hgm
    go_wp2_with (refine wpList_makeBig (w := w2) rfl _ _ 24 rfl (.agg (rowA noneR)) 44 rfl (by omega) Tryz.underlying24 HI0.out.1 HI0.out.2.1 HI0.out.2.2.1 HI0.out.2.2.2 (by omega) l.length rfl rfl (by omega) ?_; intro w3 hO3 hk3)
    have HRM3 := Lib.hid (show Sl w3 88 44 (.slice (some ⟨gr, 0, none⟩) l.length l.length) (V.map vrow) ∧ Bls w3 (.slice (some ⟨gm, 0, none⟩) l.length l.length) (V.map (·.isSome)) ∧ Kept (fun _ => False) w w3 from ⟨Sl.kept hk3 HRM.out.1 (fun _ _ e => e), Sl.kept hk3 HRM.out.2.1 (fun _ _ e => e), HRM.out.2.2.trans hk3 (fun _ _ e => e)⟩)
    have hog : w.heap.size ≤ w2.heap.size := HRM.out.2.2.size
    have HO3 := Lib.hid (show Sl w3 33 44 (.slice (some ⟨w2.heap.size, 0, none⟩) l.length l.length) (outR V 0) from by rw [outR_zero, HVL.out]; exact hO3)
    clear hO3 hk3 HRM
    generalize w2.heap.size = og at *
    go_loopw [28] (fun iv wr => ∃ k : Nat, iv = .int .i64 k ∧ k ≤ l.length ∧ Sl wr 33 44 (.slice (some ⟨og, 0, none⟩) l.length l.length) (outR V k) ∧ Kept (fun g => g = og) w3 wr) (fun iv _ => l.length - (intOf iv).toNat)
    case atStart => exact ⟨0, rfl, Nat.zero_le _, HO3.out, Kept.refl _ _⟩
    case round =>
      obtain ⟨k, rfl, hk, hO, hkr⟩ := hrel
      have HO := Lib.hid hO
      have HKR := Lib.hid hkr
      have hR := Sl.kept hkr HRM3.out.1 (fun g hg e => by have e1 : gr = g := Option.some.inj hg; omega)
      have hM := Sl.kept hkr HRM3.out.2.1 (fun g hg e => by have e1 : gm = g := Option.some.inj hg; omega)
      by_cases hlt : k < l.length
      case neg =>
        obtain rfl : k = l.length := by omega
        have HE := Lib.hid (outR_end V)
        clear hO hkr hR hM
        go_wp2_with fail
        go_ret2
        refine ⟨_, rfl, fun e => absurd rfl e, fun _ => ⟨V, HKI.out, ?_⟩, HRM3.out.2.2.trans HKR.out (fun g hg e => by omega), fun g hg => by have e1 : og = g := Option.some.inj hg; omega⟩
        have h1 := HO.out
        rw [show l.length = V.length from HVL.out.symm, HE.out] at h1
        rw [HVL.out] at h1
        exact h1
      case pos =>
        obtain ⟨v, hv⟩ : ∃ v, V[k]? = some v := ⟨_, List.getElem?_eq_getElem (by rw [HVL.out]; exact hlt)⟩
        have hmc : wr.cell? ⟨gm, k, none⟩ = some (.bool v.isSome) := Bls.cell hM (by rw [List.getElem?_map, hv]; rfl)
        have HV := Lib.hid hv
        have HR := Lib.hid hR
        clear hv hO hkr hR hM
        cases v with
        | none =>
          have hmc : wr.cell? ⟨gm, k, none⟩ = some (.bool false) := hmc
          have HE := Lib.hid (outR_same HV.out)
          go_wp2_with fail
          refine ⟨⟨k + 1, by simp, by omega, by rw [HE.out]; exact HO.out, HKR.out⟩, ?_⟩
          show l.length - ((k : Int) + 1).toNat < l.length - ((k : Int)).toNat
          omega
        | some r =>
          have hmc : wr.cell? ⟨gm, k, none⟩ = some (.bool true) := hmc
          have HE := Lib.hid (outR_succ HV.out)
          have HL := Lib.hid (show r.length = 11 from (HKI.out.b.num k r HV.out).1)
          go_wp2_with (first | (refine wpList_loadB rfl _ 88 rfl aggRow HJ0.out.1 (rowA r) (by rw [HJ0.out.2.2.1, rowA_sz HL.out]) ⟨gr, k * 44, none⟩ (by first | rfl | simp) (fun q u hu => by
              rw [add_n]
              have hq : q < 44 := by
                have := (Array.getElem?_eq_some_iff.1 hu).1
                rw [rowA_sz HL.out] at this
                exact this
              have := Sl.cell HR.out (i := k) (c := vrow (some r)) (by rw [List.getElem?_map, HV.out]; rfl) hq
              rw [this]
              simpa [vrow, rowA] using hu) ?_) | (refine wpList_storeElem (rowC r) rfl _ _ 33 rfl HI0.out.1 HI0.out.2.2.1 og l.length l.length k (outR V k) rfl (by rfl) (by rw [flat_len, HL.out]) (rowC_one _) (by exact HO.out) (by rw [outR_len (by rw [HVL.out]; omega), HVL.out]; exact hlt) ?_; intro w5 hO5 hk5))
          refine ⟨⟨k + 1, by simp, by omega, by rw [HE.out]; exact hO5, HKR.out.trans hk5 (fun _ _ e => e)⟩, ?_⟩
          show l.length - ((k : Int) + 1).toNat < l.length - ((k : Int)).toNat
          omega

end Go.Proofs.YtdchmelgaljpfaaGreat

set_option linter.unusedSimpArgs false
set_option linter.unusedVariables false
namespace Go.Proofs.YtdchmelgaljpfaaGreat
open Go.RowKit

/-! ### what is folded -/
def lowI (n : Nat) : Int := wrap32 ((n : Int) % 4294967296)
theorem lowI_rng (n : Nat) : -2147483648 ≤ lowI n ∧ lowI n ≤ 2147483647 := by unfold lowI wrap32; omega
theorem lowI_eq (n : Nat) : wrap32 ((n : Int) % 4294967296) = lowI n := rfl
def foldR (x : In) (v : Option Nat) : In := match v with
  | some n => if signN (lowI n) = n then ⟨183, x.dst, 0, 0, lowI n⟩ else x
  | none => x
def foldIn (x : In) (v : Option KR) : In := match v with
  | some r => if ((x.op % 8 != 4 && x.op % 8 != 7) || x.op == 183 || x.op == 180) = true then x else foldR x (resR x r)
  | none => x
def prefN {α : Type} (M L : List α) (k : Nat) : List α := M.take k ++ L.drop k
section
variable {α : Type} {M L : List α}
theorem prefN_zero : prefN M L 0 = L := by simp [prefN]
theorem prefN_end (h : M.length = L.length) : prefN M L L.length = M := by
  unfold prefN
  rw [List.take_of_length_le (by omega), List.drop_eq_nil_of_le (by omega), List.append_nil]
theorem prefN_succ (h : M.length = L.length) {k : Nat} {y : α} (hy : M[k]? = some y) : prefN M L (k + 1) = (prefN M L k).set k y := by
  have hk := (List.getElem?_eq_some_iff.1 hy).1
  unfold prefN
  rw [List.take_add_one, hy]
  simp only [Option.toList]
  rw [List.set_append_right _ _ (by rw [List.length_take]; omega), List.length_take, Nat.min_eq_left (by omega), Nat.sub_self]
  rw [List.drop_eq_getElem_cons (l := L) (i := k) (by omega), List.set_cons_zero, List.append_assoc]
  rfl
theorem prefN_len (h : M.length = L.length) (k : Nat) : (prefN M L k).length = L.length := by
  unfold prefN
  rw [List.length_append, List.length_take, List.length_drop]
  omega
theorem prefN_same (h : M.length = L.length) {k : Nat} {y : α} (hy : M[k]? = some y) (hl : L[k]? = some y) : prefN M L (k + 1) = prefN M L k := by
  have hk := (List.getElem?_eq_some_iff.1 hl).1
  unfold prefN
  rw [List.take_add_one, hy]
  simp only [Option.toList]
  rw [List.drop_eq_getElem_cons (l := L) (i := k) hk, List.append_assoc]
  have e : L[k] = y := by rw [List.getElem?_eq_getElem hk] at hl; exact Option.some.inj hl
  rw [e]
  rfl
end
def foldL (l : List In) (V : List (Option KR)) : List In := l.mapIdx fun i x => foldIn x (V.getD i none)
theorem foldL_len (l : List In) (V : List (Option KR)) : (foldL l V).length = l.length := by unfold foldL; rw [List.length_mapIdx]
theorem foldL_get {l : List In} {V : List (Option KR)} {i : Nat} {x : In} {v : Option KR} (hx : l[i]? = some x) (hv : V[i]? = some v) : (foldL l V)[i]? = some (foldIn x v) := by
  unfold foldL
  rw [List.getElem?_mapIdx, hx, List.getD_eq_getElem?_getD, hv]
  rfl
theorem aggIn : ∀ w, (isAgg 75).run Tryz.prog w = .ok true w := fun w => by kernel_rfl

set_option maxHeartbeats 8000000 in
set_option maxRecDepth 100000 in
theorem fFold_any (l : List In) (a : Option Addr) (c : Nat) (w : World) (h : Ins w (.slice a l.length c) l) (hok : InsOk l) :
    Calls Tryz.prog 9 #[.slice a l.length c] w fun e w' => ∃ ov, e = .returned (.tuple #[ov, .int .i64 (checkI l)]) ∧ (checkI l ≠ 0 → ov = .slice none 0 0) ∧ (checkI l = 0 → ∃ V, KIs l V ∧ InS w' ov (foldL l V)) ∧ Kept (fun _ => False) w w' ∧ ∀ g, ov.ownBlock = some g → w.heap.size ≤ g := by
  have hlen := hok.len
  have HCK := Lib.hid (fun W hI => icheck_any l a c W hI hok)
  have HKN := Lib.hid (fun W hI hz => known_rows l a c W hI hok hz)
  have HIN := Lib.hid (fun (W : World) (hk : Kept (fun _ => False) w W) => h.kept hk)
  have HOK := Lib.hid hok
  obtain ⟨i0, hI0, hI1, hI2, hI3⟩ := info_parts infoIn
  have HI0 := Lib.hid (And.intro hI0 (And.intro hI1 (And.intro hI2 hI3)))
  have HN0 := Lib.hid (And.intro hI0 (show i0.size = (inVals zeroIn).size from hI2))
  obtain ⟨j0, hJ0, hJ1, hJ2, hJ3⟩ := info_parts infoRow3
  have HJ0 := Lib.hid (And.intro hJ0 (And.intro hJ1 (And.intro hJ2 hJ3)))
  clear hI0 hI1 hI2 hI3 hJ0 hJ1 hJ2 hJ3
  by_cases hz : checkI l = 0
  case neg =>
    have hz2 : (checkI l != 0) = true := by simpa using hz
    have HZ := Lib.hid hz
    clear hz h hok
    generalize checkI l = ce at *
    go_enter Tryz.func9, Tryz.ntmps9
    go_wp2_with fail
    refine (HCK.out _ (HIN.out _ (Kept.refl _ w))).mono ?_
    rintro e w1 ⟨⟨p, rfl⟩, hk1⟩
    go_wp2_with fail
    go_ret2
    exact ⟨_, rfl, fun _ => rfl, fun e => absurd e HZ.out, hk1, fun g hg => by simp [Value.ownBlock] at hg⟩
  case pos =>
    have HZ := Lib.hid hz
    rw [hz] at HCK
    have HKN := Lib.hid (fun W hI => HKN.out W hI hz)
    simp only [hz]
    obtain ⟨hl1, -, -⟩ := slots_zero (check_parts hz).1
    obtain ⟨x0, hx0⟩ : ∃ x, l[0]? = some x := ⟨_, List.getElem?_eq_getElem (by omega)⟩
    obtain ⟨lg, lo, rfl, -, -⟩ := h.at_ hx0
    have HSRC := Lib.hid (fun (W : World) (hk : Kept (fun _ => False) w W) => (HIN.out W hk).src)
    clear hx0 x0 h hz hok
    go_enter Tryz.func9, Tryz.ntmps9
    go_wp2_with fail
    refine (HCK.out _ (HIN.out _ (Kept.refl _ w))).mono ?_
    rintro e w1 ⟨⟨p, rfl⟩, hk1⟩
    go_wp2_with fail
    refine (HKN.out _ (HIN.out _ hk1)).mono ?_
    rintro e w2 ⟨V, gr, gm, rfl, hKI, hR, hM, hk2, hgr, hgm⟩
    have hK2 := hk1.trans hk2 (fun _ _ e => e)
    have HKI := Lib.hid hKI
    have HVL := Lib.hid hKI.b.len
    have HRM := Lib.hid (And.intro hR (And.intro hM hK2))
    have hrl := Sl.lt hR gr rfl
    have hml := Sl.lt hM gm rfl
    have hog := hK2.size
    clear hKI hR hM hk1 hk2 hK2 hgr hgm
    go_wp2_with (first
      | (at_make; refine wpList_makeRow (w := w2) rfl _ _ 22 rfl (.agg #[.int .u8 0, .int .u8 0, .int .u8 0, .int .i16 0, .int .i32 0]) 5 rfl (by omega) Tryz.underlying22 HI0.out.1 HI0.out.2.1 HI0.out.2.2.1 HI0.out.2.2.2 (by omega) l.length rfl rfl (by omega) ?_; intro w3 hO3 hk3)
      | (refine wpList_copyRow (w := w3) rfl _ _ 22 rfl Tryz.underlying22 HI0.out.1 HI0.out.2.2.1 w2.heap.size l.length l.length l.length c _ (l.map icells) rfl hO3 (by simp) (icells_len l) ⟨lg, lo, none⟩ rfl (HSRC.out _ (HRM.out.2.2.trans hk3 (fun _ _ e => e))) ?_; intro w4 hO4 hk4))
    have hk34 : Kept (fun _ => False) w2 w4 := hk3.trans hk4 (fun k hk e => by omega)
    have HRM3 := Lib.hid (show Sl w4 88 44 (.slice (some ⟨gr, 0, none⟩) l.length l.length) (V.map vrow) ∧ Bls w4 (.slice (some ⟨gm, 0, none⟩) l.length l.length) (V.map (·.isSome)) ∧ Kept (fun _ => False) w w4 from ⟨Sl.kept hk34 HRM.out.1 (fun _ _ e => e), Sl.kept hk34 HRM.out.2.1 (fun _ _ e => e), HRM.out.2.2.trans hk34 (fun _ _ e => e)⟩)
    have HO4 := Lib.hid (show InS w4 (.slice (some ⟨w2.heap.size, 0, none⟩) l.length l.length) (prefN (foldL l V) l 0) from by rw [prefN_zero]; exact hO4)
    clear hO3 hk3 hO4 hk4 hk34 HRM
    generalize w2.heap.size = og at *
    go_loopw [36] (fun iv wr => ∃ k : Nat, iv = .int .i64 k ∧ k ≤ l.length ∧ InS wr (.slice (some ⟨og, 0, none⟩) l.length l.length) (prefN (foldL l V) l k) ∧ Kept (fun g => g = og) w4 wr) (fun iv _ => l.length - (intOf iv).toNat)
    case atStart => exact ⟨0, rfl, Nat.zero_le _, HO4.out, Kept.refl _ _⟩
    case round =>
      obtain ⟨k, rfl, hk, hO, hkr⟩ := hrel
      have HO := Lib.hid hO
      have HKR := Lib.hid hkr
      have hR := Sl.kept hkr HRM3.out.1 (fun g hg e => by have e1 : gr = g := Option.some.inj hg; omega)
      have hM := Sl.kept hkr HRM3.out.2.1 (fun g hg e => by have e1 : gm = g := Option.some.inj hg; omega)
      have hkw : Kept (fun _ => False) w wr := HRM3.out.2.2.trans hkr (fun g hg e => by omega)
      by_cases hlt : k < l.length
      case neg =>
        obtain rfl : k = l.length := by omega
        have HKW := Lib.hid hkw
        clear hO hkr hR hM hkw
        go_wp2_with fail
        go_ret2
        refine ⟨_, rfl, fun e => absurd rfl e, fun _ => ⟨V, HKI.out, ?_⟩, HKW.out, fun g hg => by have e1 : og = g := Option.some.inj hg; omega⟩
        have h1 := HO.out
        rw [prefN_end (foldL_len l V)] at h1
        exact h1
      case pos =>
        obtain ⟨v, hv⟩ : ∃ v, V[k]? = some v := ⟨_, List.getElem?_eq_getElem (by rw [HVL.out]; exact hlt)⟩
        obtain ⟨x, hx⟩ : ∃ x, l[k]? = some x := ⟨_, List.getElem?_eq_getElem hlt⟩
        have hmc : wr.cell? ⟨gm, k, none⟩ = some (.bool v.isSome) := Bls.cell hM (by rw [List.getElem?_map, hv]; rfl)
        have hfk := foldL_get hx hv
        have hgmw := Sl.lt hM gm rfl
        have hgrw := Sl.lt hR gr rfl
        have HSM := Lib.hid (fun (e : foldIn x v = x) => prefN_same (foldL_len l V) (hfk.trans (congrArg some e)) hx)
        have HST := Lib.hid (prefN_succ (foldL_len l V) hfk)
        have HXO := Lib.hid (HOK.out.at_ hx)
        have HRT := Lib.hid (fun (r : KR) (e : v = some r) => right_of HZ.out hx (rch_ok HZ.out (HKI.out.b.rch k r (by rw [hv, e]))).2)
        have h7 := and7 (HOK.out.at_ hx).op
        obtain ⟨gp, op, ep, zp, p0, p1, p2, p3, p4⟩ := (HIN.out _ hkw).at_ hx
        cases ep
        have HV := Lib.hid hv
        have HR := Lib.hid hR
        have hka := (Kept.refl (fun _ => False) wr).alloc (.cells (inVals x) 75)
        have HA := Lib.hid (And.intro hka (Blk.new wr 75 (inVals x)))
        clear hv hx hO hkr hR hM hkw hfk hka
        cases v with
        | none =>
          have hmc : wr.cell? ⟨gm, k, none⟩ = some (.bool false) := hmc
          go_wp2_with fail
          refine ⟨⟨k + 1, by simp, by omega, by rw [HSM.out rfl]; exact Sl.kept HA.out.1 HO.out (fun _ _ e => e), HKR.out.trans HA.out.1 (fun _ _ e => e.elim)⟩, ?_⟩
          show l.length - ((k : Int) + 1).toNat < l.length - ((k : Int)).toNat
          omega
        | some r =>
          have hmc : wr.cell? ⟨gm, k, none⟩ = some (.bool true) := hmc
          have hrl : r.length = 11 := (HKI.out.b.num k r HV.out).1
          have HL := Lib.hid hrl
          have hfi : foldIn x (some r) = if ((x.op % 8 != 4 && x.op % 8 != 7) || x.op == 183 || x.op == 180) = true then x else foldR x (resR x r) := rfl
          have hari : (x.op % 8 != 4 && x.op % 8 != 7) = false → Ari x r := fun e => ari_of HXO.out (HRT.out r rfl) hrl (HKI.out.b.num k r HV.out).2 (by
            unfold clsI
            rw [Bool.and_eq_false_iff] at e
            rcases e with e | e
            · left; simpa using e
            · right; simpa using e)
          generalize hb4 : (x.op % 8 != 4) = b4 at *
          generalize hb7 : (x.op % 8 != 7) = b7 at *
          generalize he3 : (x.op == 183) = e3 at *
          generalize he0 : (x.op == 180) = e0 at *
          have HFI := Lib.hid hfi
          have HAR := Lib.hid hari
          clear hfi hari hrl
          have hcases : (b4 = true ∧ b7 = true) ∨ (b4 = false ∧ e3 = true) ∨ (b4 = false ∧ e3 = false ∧ e0 = true) ∨ (b4 = true ∧ b7 = false ∧ e3 = true) ∨ (b4 = true ∧ b7 = false ∧ e3 = false ∧ e0 = true) ∨ (b4 = false ∧ e3 = false ∧ e0 = false) ∨ (b4 = true ∧ b7 = false ∧ e3 = false ∧ e0 = false) := by
            cases b4 <;> cases b7 <;> cases e3 <;> cases e0 <;> simp
          rcases hcases with ⟨rfl, rfl⟩ | ⟨rfl, rfl⟩ | ⟨rfl, rfl, rfl⟩ | ⟨rfl, rfl, rfl⟩ | ⟨rfl, rfl, rfl, rfl⟩ | ⟨rfl, rfl, rfl⟩ | ⟨rfl, rfl, rfl, rfl⟩
          · go_wp2_with fail
            refine ⟨⟨k + 1, by simp, by omega, by rw [HSM.out (by rw [HFI.out]; simp)]; exact Sl.kept HA.out.1 HO.out (fun _ _ e => e), HKR.out.trans HA.out.1 (fun _ _ e => e.elim)⟩, ?_⟩
            show l.length - ((k : Int) + 1).toNat < l.length - ((k : Int)).toNat
            omega
          · go_wp2_with fail
            refine ⟨⟨k + 1, by simp, by omega, by rw [HSM.out (by rw [HFI.out]; simp)]; exact Sl.kept HA.out.1 HO.out (fun _ _ e => e), HKR.out.trans HA.out.1 (fun _ _ e => e.elim)⟩, ?_⟩
            show l.length - ((k : Int) + 1).toNat < l.length - ((k : Int)).toNat
            omega
          · go_wp2_with fail
            refine ⟨⟨k + 1, by simp, by omega, by rw [HSM.out (by rw [HFI.out]; simp)]; exact Sl.kept HA.out.1 HO.out (fun _ _ e => e), HKR.out.trans HA.out.1 (fun _ _ e => e.elim)⟩, ?_⟩
            show l.length - ((k : Int) + 1).toNat < l.length - ((k : Int)).toNat
            omega
          · go_wp2_with fail
            refine ⟨⟨k + 1, by simp, by omega, by rw [HSM.out (by rw [HFI.out]; simp)]; exact Sl.kept HA.out.1 HO.out (fun _ _ e => e), HKR.out.trans HA.out.1 (fun _ _ e => e.elim)⟩, ?_⟩
            show l.length - ((k : Int) + 1).toNat < l.length - ((k : Int)).toNat
            omega
          · go_wp2_with fail
            refine ⟨⟨k + 1, by simp, by omega, by rw [HSM.out (by rw [HFI.out]; simp)]; exact Sl.kept HA.out.1 HO.out (fun _ _ e => e), HKR.out.trans HA.out.1 (fun _ _ e => e.elim)⟩, ?_⟩
            show l.length - ((k : Int) + 1).toNat < l.length - ((k : Int)).toNat
            omega
          · have HRS := Lib.hid (fun W => result_any x r W (HAR.out (by simp)))
            have hfr : foldIn x (some r) = foldR x (resR x r) := by rw [HFI.out]; simp
            have HFR := Lib.hid hfr
            clear hfr
            have hmr := hmc
            go_wp2_with fail
            refine wp_region_mix [.l, .w, .w, .w, .l, .k, .w, .w, .w, .w, .w] (by kernel_rfl) (by kernel_rfl) (fun W => Kept (fun _ => False) wr W ∧ Blk W wr.heap.size 75 (inVals x)) ?_
            have HA2 := Lib.hid (show Kept (fun _ => False) wr (wr.alloc (.cells (inVals x) 75)).drew ∧ Blk (wr.alloc (.cells (inVals x) 75)).drew wr.heap.size 75 (inVals x) from ⟨HA.out.1.drew, HA.out.2⟩)
            generalize (wr.alloc (.cells (inVals x) 75)).drew = wa at *
            refine mix_loadB HA2.out rfl _ 75 rfl aggIn HN0.out.1 (inVals x) (by exact HN0.out.2) ⟨wr.heap.size, 0, none⟩ (by first | rfl | simp) (fun w' hb q u hu => by rw [add_n, hb.2.cell, Nat.zero_add]; exact hu) ?_
            try simp only [Act.put, List.setIfInBounds_toArray, List.set_cons_succ, List.set_cons_zero]
            refine mix_w1 ?_; go_big_quiet_step (fail); refine wpQuiet_nil ?_
            refine mix_w1 ?_; go_big_quiet_step (fail); refine wpQuiet_nil ?_
            refine mix_w1 ?_; go_big_quiet_step (fail); refine wpQuiet_nil ?_
            refine mix_loadB HA2.out rfl _ 88 rfl aggRow HJ0.out.1 (rowA r) (by rw [HJ0.out.2.2.1, rowA_sz HL.out]) ⟨gr, k * 44, none⟩ (by first | rfl | simp) (fun w' hb q u hu => by
                rw [add_n]
                have hq : q < 44 := by
                  have := (Array.getElem?_eq_some_iff.1 hu).1
                  rw [rowA_sz HL.out] at this
                  exact this
                have := Sl.cell (Sl.kept hb.1 HR.out (fun _ _ e => e)) (i := k) (c := vrow (some r)) (by rw [List.getElem?_map, HV.out]; rfl) hq
                rw [this]
                simpa [vrow, rowA] using hu) ?_
            try simp only [Act.put, List.setIfInBounds_toArray, List.set_cons_succ, List.set_cons_zero]
            refine mix_k (by exact HA2.out) fun Q' hQ' => ?_
            go_wp2_with fail
            refine (HRS.out _).mono ?_
            rintro e wb ⟨rfl, hkb⟩
            have HB := Lib.hid (show Kept (fun _ => False) wr wb ∧ Blk wb wr.heap.size 75 (inVals x) from ⟨HA2.out.1.trans hkb (fun _ _ e => e), hkb.blk (fun e => e) HA2.out.2⟩)
            go_wp2_with fail
            refine hQ' _ _ HB.out ?_
            clear hQ' Q' hkb HA2
            have HRR := Lib.hid (rfl : resR x r = resR x r)
            generalize hrr : resR x r = rr at *
            cases rr with
            | none =>
              simp only [Option.getD_none, Option.isSome_none]
              refine mix_w1 ?_; go_big_quiet_step (fail); refine wpQuiet_nil ?_
              refine mix_w1 ?_; go_big_quiet_step (fail); refine wpQuiet_nil ?_
              refine mix_w1 ?_; go_big_quiet_step (fail); refine wpQuiet_nil ?_
              refine mix_w1 ?_; go_big_quiet_step (fail); refine wpQuiet_nil ?_
              refine mix_w1 ?_; go_big_quiet_step (fail); refine wpQuiet_nil ?_
              refine mix_nil ?_
              go_wp2_with fail
              refine ⟨⟨k + 1, by simp, by omega, by rw [HSM.out (by rw [HFR.out]; rfl)]; exact Sl.kept HB.out.1 HO.out (fun _ _ e => e), HKR.out.trans HB.out.1 (fun _ _ e => e.elim)⟩, ?_⟩
              show l.length - ((k : Int) + 1).toNat < l.length - ((k : Int)).toNat
              omega
            | some n =>
              simp only [Option.getD_some, Option.isSome_some]
              have HSG := Lib.hid (fun W => asign_any (lowI n) W (lowI_rng n))
              have hlow := lowI_eq n
              refine mix_w1 ?_; go_big_quiet_step (fail); refine wpQuiet_nil ?_
              refine mix_w1 ?_; go_big_quiet_step (fail); refine wpQuiet_nil ?_
              refine mix_w1 ?_; go_big_quiet_step (fail); refine wpQuiet_nil ?_
              refine mix_w1 ?_; go_big_quiet_step (fail); refine wpQuiet_nil ?_
              refine mix_w1 ?_; go_big_quiet_step (fail); refine wpQuiet_nil ?_
              refine mix_nil ?_
              go_wp2_with fail
              refine (HSG.out _).mono ?_
              rintro e wc ⟨rfl, rfl⟩
              have q1 : wb.cell? ⟨wr.heap.size, 1, none⟩ = some (.int .u8 x.dst) := by rw [HB.out.2.cell]; rfl
              by_cases hsn : signN (lowI n) = n
              · have HFE := Lib.hid (show foldIn x (some r) = ⟨183, x.dst, 0, 0, lowI n⟩ by rw [HFR.out]; show (if signN (lowI n) = n then _ else _) = _; rw [if_pos hsn])
                rw [hsn]
                clear hlow
                have hsn2 := hsn
                clear hsn
                generalize lowI n = im at *
                go_wp2_with (refine wpList_storeElem (icells ⟨183, x.dst, 0, 0, im⟩) rfl _ _ 75 rfl HI0.out.1 HI0.out.2.2.1 og l.length l.length k ((prefN (foldL l V) l k).map icells) rfl (by rfl) (by rfl) (icells_len [⟨183, x.dst, 0, 0, im⟩] _ (by simp)).2 (by exact Sl.kept HB.out.1 HO.out (fun _ _ e => e)) (by rw [List.length_map, prefN_len (foldL_len l V)]; exact hlt) ?_; intro w5 hO5 hk5)
                refine ⟨⟨k + 1, by simp, by omega, by rw [HST.out, HFE.out]; unfold InS; rw [List.map_set]; exact hO5, (HKR.out.trans HB.out.1 (fun _ _ e => e.elim)).trans hk5 (fun _ _ e => e)⟩, ?_⟩
                show l.length - ((k : Int) + 1).toNat < l.length - ((k : Int)).toNat
                omega
              · have HFE := Lib.hid (show foldIn x (some r) = x by rw [HFR.out]; show (if signN (lowI n) = n then _ else _) = _; rw [if_neg hsn])
                generalize hss : signN (lowI n) = s at *
                have hne : ((s : Int) == (n : Int)) = false := by
                  have : ¬ (s : Int) = (n : Int) := fun e => hsn (Int.ofNat_inj.1 e)
                  simpa using this
                clear hsn hss
                go_wp2_with fail
                refine ⟨⟨k + 1, by simp, by omega, by rw [HSM.out HFE.out]; exact Sl.kept HB.out.1 HO.out (fun _ _ e => e), HKR.out.trans HB.out.1 (fun _ _ e => e.elim)⟩, ?_⟩
                show l.length - ((k : Int) + 1).toNat < l.length - ((k : Int)).toNat
                omega
          · have HRS := Lib.hid (fun W => result_any x r W (HAR.out (by simp)))
            have hfr : foldIn x (some r) = foldR x (resR x r) := by rw [HFI.out]; simp
            have HFR := Lib.hid hfr
            clear hfr
            have hmr := hmc
            go_wp2_with fail
            refine wp_region_mix [.l, .w, .w, .w, .l, .k, .w, .w, .w, .w, .w] (by kernel_rfl) (by kernel_rfl) (fun W => Kept (fun _ => False) wr W ∧ Blk W wr.heap.size 75 (inVals x)) ?_
            have HA2 := Lib.hid (show Kept (fun _ => False) wr (wr.alloc (.cells (inVals x) 75)).drew ∧ Blk (wr.alloc (.cells (inVals x) 75)).drew wr.heap.size 75 (inVals x) from ⟨HA.out.1.drew, HA.out.2⟩)
            generalize (wr.alloc (.cells (inVals x) 75)).drew = wa at *
            refine mix_loadB HA2.out rfl _ 75 rfl aggIn HN0.out.1 (inVals x) (by exact HN0.out.2) ⟨wr.heap.size, 0, none⟩ (by first | rfl | simp) (fun w' hb q u hu => by rw [add_n, hb.2.cell, Nat.zero_add]; exact hu) ?_
            try simp only [Act.put, List.setIfInBounds_toArray, List.set_cons_succ, List.set_cons_zero]
            refine mix_w1 ?_; go_big_quiet_step (fail); refine wpQuiet_nil ?_
            refine mix_w1 ?_; go_big_quiet_step (fail); refine wpQuiet_nil ?_
            refine mix_w1 ?_; go_big_quiet_step (fail); refine wpQuiet_nil ?_
            refine mix_loadB HA2.out rfl _ 88 rfl aggRow HJ0.out.1 (rowA r) (by rw [HJ0.out.2.2.1, rowA_sz HL.out]) ⟨gr, k * 44, none⟩ (by first | rfl | simp) (fun w' hb q u hu => by
                rw [add_n]
                have hq : q < 44 := by
                  have := (Array.getElem?_eq_some_iff.1 hu).1
                  rw [rowA_sz HL.out] at this
                  exact this
                have := Sl.cell (Sl.kept hb.1 HR.out (fun _ _ e => e)) (i := k) (c := vrow (some r)) (by rw [List.getElem?_map, HV.out]; rfl) hq
                rw [this]
                simpa [vrow, rowA] using hu) ?_
            try simp only [Act.put, List.setIfInBounds_toArray, List.set_cons_succ, List.set_cons_zero]
            refine mix_k (by exact HA2.out) fun Q' hQ' => ?_
            go_wp2_with fail
            refine (HRS.out _).mono ?_
            rintro e wb ⟨rfl, hkb⟩
            have HB := Lib.hid (show Kept (fun _ => False) wr wb ∧ Blk wb wr.heap.size 75 (inVals x) from ⟨HA2.out.1.trans hkb (fun _ _ e => e), hkb.blk (fun e => e) HA2.out.2⟩)
            go_wp2_with fail
            refine hQ' _ _ HB.out ?_
            clear hQ' Q' hkb HA2
            have HRR := Lib.hid (rfl : resR x r = resR x r)
            generalize hrr : resR x r = rr at *
            cases rr with
            | none =>
              simp only [Option.getD_none, Option.isSome_none]
              refine mix_w1 ?_; go_big_quiet_step (fail); refine wpQuiet_nil ?_
              refine mix_w1 ?_; go_big_quiet_step (fail); refine wpQuiet_nil ?_
              refine mix_w1 ?_; go_big_quiet_step (fail); refine wpQuiet_nil ?_
              refine mix_w1 ?_; go_big_quiet_step (fail); refine wpQuiet_nil ?_
              refine mix_w1 ?_; go_big_quiet_step (fail); refine wpQuiet_nil ?_
              refine mix_nil ?_
              go_wp2_with fail
              refine ⟨⟨k + 1, by simp, by omega, by rw [HSM.out (by rw [HFR.out]; rfl)]; exact Sl.kept HB.out.1 HO.out (fun _ _ e => e), HKR.out.trans HB.out.1 (fun _ _ e => e.elim)⟩, ?_⟩
              show l.length - ((k : Int) + 1).toNat < l.length - ((k : Int)).toNat
              omega
            | some n =>
              simp only [Option.getD_some, Option.isSome_some]
              have HSG := Lib.hid (fun W => asign_any (lowI n) W (lowI_rng n))
              have hlow := lowI_eq n
              refine mix_w1 ?_; go_big_quiet_step (fail); refine wpQuiet_nil ?_
              refine mix_w1 ?_; go_big_quiet_step (fail); refine wpQuiet_nil ?_
              refine mix_w1 ?_; go_big_quiet_step (fail); refine wpQuiet_nil ?_
              refine mix_w1 ?_; go_big_quiet_step (fail); refine wpQuiet_nil ?_
              refine mix_w1 ?_; go_big_quiet_step (fail); refine wpQuiet_nil ?_
              refine mix_nil ?_
              go_wp2_with fail
              refine (HSG.out _).mono ?_
              rintro e wc ⟨rfl, rfl⟩
              have q1 : wb.cell? ⟨wr.heap.size, 1, none⟩ = some (.int .u8 x.dst) := by rw [HB.out.2.cell]; rfl
              by_cases hsn : signN (lowI n) = n
              · have HFE := Lib.hid (show foldIn x (some r) = ⟨183, x.dst, 0, 0, lowI n⟩ by rw [HFR.out]; show (if signN (lowI n) = n then _ else _) = _; rw [if_pos hsn])
                rw [hsn]
                clear hlow
                have hsn2 := hsn
                clear hsn
                generalize lowI n = im at *
                go_wp2_with (refine wpList_storeElem (icells ⟨183, x.dst, 0, 0, im⟩) rfl _ _ 75 rfl HI0.out.1 HI0.out.2.2.1 og l.length l.length k ((prefN (foldL l V) l k).map icells) rfl (by rfl) (by rfl) (icells_len [⟨183, x.dst, 0, 0, im⟩] _ (by simp)).2 (by exact Sl.kept HB.out.1 HO.out (fun _ _ e => e)) (by rw [List.length_map, prefN_len (foldL_len l V)]; exact hlt) ?_; intro w5 hO5 hk5)
                refine ⟨⟨k + 1, by simp, by omega, by rw [HST.out, HFE.out]; unfold InS; rw [List.map_set]; exact hO5, (HKR.out.trans HB.out.1 (fun _ _ e => e.elim)).trans hk5 (fun _ _ e => e)⟩, ?_⟩
                show l.length - ((k : Int) + 1).toNat < l.length - ((k : Int)).toNat
                omega
              · have HFE := Lib.hid (show foldIn x (some r) = x by rw [HFR.out]; show (if signN (lowI n) = n then _ else _) = _; rw [if_neg hsn])
                generalize hss : signN (lowI n) = s at *
                have hne : ((s : Int) == (n : Int)) = false := by
                  have : ¬ (s : Int) = (n : Int) := fun e => hsn (Int.ofNat_inj.1 e)
                  simpa using this
                clear hsn hss
                go_wp2_with fail
                refine ⟨⟨k + 1, by simp, by omega, by rw [HSM.out HFE.out]; exact Sl.kept HB.out.1 HO.out (fun _ _ e => e), HKR.out.trans HB.out.1 (fun _ _ e => e.elim)⟩, ?_⟩
                show l.length - ((k : Int) + 1).toNat < l.length - ((k : Int)).toNat
                omega

end Go.Proofs.YtdchmelgaljpfaaGreat

