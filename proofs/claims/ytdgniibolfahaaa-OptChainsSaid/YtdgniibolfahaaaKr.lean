import Derived.Test.YtdgniibolfahaaaKq
set_option linter.unusedSimpArgs false
set_option linter.unusedVariables false
namespace Go.Proofs.Ytdgniibolfahaaa
open Go.RowKit

/-! ### opt.Trim -/
theorem kept2_any (l : List In) (a : Option Addr) (c : Nat) (S : List Bool) (bv : Value) (w : World) (h : Ins w (.slice a l.length c) l) (hok : InsOk l) (h4096 : l.length ≤ 4096) (hSv : Bls w bv S) (hKO : KeepOk l S) :
    Calls Try.prog 21 #[.slice a l.length c, bv] w fun e w' => ∃ (g1 g2 : Nat), e = .returned (.tuple #[.slice (some ⟨g1, 0, none⟩) (keptL l S).length (keptL l S).length, .slice (some ⟨g2, 0, none⟩) (keptL l S).length (keptL l S).length]) ∧
      InS w' (.slice (some ⟨g1, 0, none⟩) (keptL l S).length (keptL l S).length) (keptL l S) ∧ Ints w' (.slice (some ⟨g2, 0, none⟩) (keptL l S).length (keptL l S).length) (outL S l.length) ∧ g1 ≠ g2 ∧ w.heap.size ≤ g1 ∧ w.heap.size ≤ g2 ∧ Kept (fun _ => False) w w' := by
  rw [keptL_len hKO.len]
  exact kept_any l a c S bv w h hok h4096 hSv hKO
noncomputable def mixA (l : List In) (i : Nat) : List Bool := (List.range l.length).map fun j => if j < i then stayB l j else (rchL l).getD j false
theorem mixA_len (l : List In) (i : Nat) : (mixA l i).length = l.length := by simp [mixA]
theorem mixA_at {l : List In} {i j : Nat} (hj : j < l.length) : (mixA l i)[j]? = some (if j < i then stayB l j else (rchL l).getD j false) := by
  unfold mixA
  rw [List.getElem?_map, range_take _ _ hj]
  rfl
theorem mixA_zero (l : List In) : mixA l 0 = rchL l := by
  apply List.ext_getElem?
  intro j
  by_cases hj : j < l.length
  · rw [mixA_at hj, if_neg (by omega), List.getD_eq_getElem?_getD, rchL_get hj]
    rfl
  · rw [List.getElem?_eq_none (by rw [mixA_len]; omega), List.getElem?_eq_none (by rw [rchL_len]; omega)]
theorem mixA_end {l : List In} : mixA l l.length = stayL l := by
  apply List.ext_getElem?
  intro j
  by_cases hj : j < l.length
  · rw [mixA_at hj, if_pos hj, stay_at hj]
  · rw [List.getElem?_eq_none (by rw [mixA_len]; omega), List.getElem?_eq_none (by simp [stayL]; omega)]
theorem mixA_same {l : List In} {i : Nat} (hs : (secL l)[i]? = some false) : mixA l (i + 1) = mixA l i := by
  apply List.ext_getElem?
  intro j
  by_cases hj : j < l.length
  · rw [mixA_at hj, mixA_at hj]
    congr 1
    by_cases e : j = i
    · subst e
      rw [if_pos (by omega), if_neg (by omega)]
      unfold stayB
      rw [if_neg (by rw [hs]; simp)]
    · by_cases h1 : j < i
      · rw [if_pos h1, if_pos (by omega)]
      · rw [if_neg h1, if_neg (by omega)]
  · rw [List.getElem?_eq_none (by rw [mixA_len]; omega), List.getElem?_eq_none (by rw [mixA_len]; omega)]
theorem mixA_set {l : List In} {i : Nat} (hi : i < l.length) : mixA l (i + 1) = (mixA l i).set i (stayB l i) := by
  apply List.ext_getElem?
  intro j
  by_cases hj : j < l.length
  · rw [mixA_at hj, List.getElem?_set]
    by_cases e : i = j
    · subst e
      rw [if_pos (by omega), if_pos rfl, if_pos (by rw [mixA_len]; exact hi)]
    · rw [if_neg e, mixA_at hj]
      by_cases h1 : j < i
      · rw [if_pos h1, if_pos (by omega)]
      · rw [if_neg h1, if_neg (by omega)]
  · rw [List.getElem?_eq_none (by rw [mixA_len]; omega), List.getElem?_eq_none (by rw [List.length_set, mixA_len]; omega)]
def dropM (n a i : Nat) : List Bool := (List.range n).map fun j => if j < i then j != a else false
theorem dropM_len (n a i : Nat) : (dropM n a i).length = n := by simp [dropM]
theorem dropM_at {n a i j : Nat} (hj : j < n) : (dropM n a i)[j]? = some (if j < i then j != a else false) := by
  unfold dropM
  rw [List.getElem?_map, range_take _ _ hj]
  rfl
theorem dropM_zero (n a : Nat) : dropM n a 0 = List.replicate n false := by
  apply List.ext_getElem?
  intro j
  by_cases hj : j < n
  · rw [dropM_at hj, if_neg (by omega), List.getElem?_replicate, if_pos hj]
  · rw [List.getElem?_eq_none (by rw [dropM_len]; omega), List.getElem?_eq_none (by simp; omega)]
theorem dropM_end (n a : Nat) : dropM n a n = dropL n a := by
  apply List.ext_getElem?
  intro j
  by_cases hj : j < n
  · rw [dropM_at hj, if_pos hj, drop_at hj]
  · rw [List.getElem?_eq_none (by rw [dropM_len]; omega), List.getElem?_eq_none (by simp [dropL]; omega)]
theorem dropM_set {n a i : Nat} (hi : i < n) : dropM n a (i + 1) = (dropM n a i).set i (i != a) := by
  apply List.ext_getElem?
  intro j
  by_cases hj : j < n
  · rw [dropM_at hj, List.getElem?_set]
    by_cases e : i = j
    · subst e
      rw [if_pos (by omega), if_pos rfl, if_pos (by rw [dropM_len]; exact hi)]
    · rw [if_neg e, dropM_at hj]
      by_cases h1 : j < i
      · rw [if_pos h1, if_pos (by omega)]
      · rw [if_neg h1, if_neg (by omega)]
  · rw [List.getElem?_eq_none (by rw [dropM_len]; omega), List.getElem?_eq_none (by rw [List.length_set, dropM_len]; omega)]
def renM (n s : List Int) (i : Nat) : List Int := (s.take i).map (fun j => n.getD j.toNat 0) ++ s.drop i
theorem renM_len (n s : List Int) (i : Nat) : (renM n s i).length = s.length := by simp [renM]; omega
theorem renM_zero (n s : List Int) : renM n s 0 = s := by simp [renM]
theorem renM_end (n s : List Int) : renM n s s.length = renum n s := by simp [renM, renum]
theorem renM_at {n s : List Int} {i : Nat} {x : Int} (hx : s[i]? = some x) : (renM n s i)[i]? = some x := by
  unfold renM
  have hi := (List.getElem?_eq_some_iff.1 hx).1
  rw [List.getElem?_append_right (by simp; omega)]
  simp only [List.length_map, List.length_take, Nat.min_eq_left (Nat.le_of_lt hi), Nat.sub_self, List.getElem?_drop, Nat.add_zero]
  exact hx
theorem renM_set {n s : List Int} {i : Nat} {x : Int} (hx : s[i]? = some x) : renM n s (i + 1) = (renM n s i).set i (n.getD x.toNat 0) := by
  have hi := (List.getElem?_eq_some_iff.1 hx).1
  unfold renM
  rw [List.take_add_one, hx, Option.toList_some, List.map_append, List.set_append_right _ _ (by simp; omega)]
  simp only [List.length_map, List.length_take, Nat.min_eq_left (Nat.le_of_lt hi), Nat.sub_self]
  have hd : s.drop i = x :: s.drop (i + 1) := by
    rw [List.drop_eq_getElem_cons hi]
    congr 1
    rw [List.getElem?_eq_getElem hi] at hx
    exact Option.some.inj hx
  rw [hd]
  simp
noncomputable def trimO (l : List In) : List In × List Int := if checkI l = 0 then trimL l else ([], [])
set_option maxHeartbeats 16000000 in
set_option maxRecDepth 100000 in
theorem trim_any (l : List In) (a : Option Addr) (c : Nat) (w : World) (h : Ins w (.slice a l.length c) l) (hok : InsOk l) :
    Calls Try.prog 8 #[.slice a l.length c] w fun e w' => ∃ (tv nv : Value), e = .returned (.tuple #[tv, nv, .int .i64 (checkI l)]) ∧ InS w' tv (trimO l).1 ∧ Ints w' nv (trimO l).2 ∧ Kept (fun _ => False) w w' ∧ (∀ g, tv.ownBlock = some g → w.heap.size ≤ g) ∧ (∀ g, nv.ownBlock = some g → w.heap.size ≤ g) := by
  have hlen := hok.len
  have HRE := Lib.hid (fun W hI => fReached_any l a c W hI hok)
  have HSE := Lib.hid (fun W hI => second_any l a c W hI hok)
  have HIN := Lib.hid (fun (W : World) (hk : Kept (fun _ => False) w W) => h.kept hk)
  by_cases hz : checkI l = 0
  case neg =>
    have hzd : (checkI l != 0) = true := by simpa using hz
    have ht : trimO l = ([], []) := by unfold trimO; rw [if_neg hz]
    rw [ht]
    generalize checkI l = r at *
    clear hz hok h ht HSE
    go_enter Try.func8, Try.ntmps8
    go_wp2_with fail
    refine (HRE.out _ (HIN.out _ (Kept.refl _ w))).mono ?_
    rintro e w1 ⟨ov, rfl, hB, hk1, ho1⟩
    clear hB
    go_wp2_with fail
    go_ret3
    exact ⟨_, _, rfl, Sl.nil _ _ _, Sl.nil _ _ _, hk1, fun g hg => by simp [Value.ownBlock] at hg, fun g hg => by simp [Value.ownBlock] at hg⟩
  case pos =>
  have ht : trimO l = trimL l := by unfold trimO; rw [if_pos hz]
  rw [ht]
  rw [hz] at HRE
  rw [hz]
  have hv := va_of hz
  have hone := hv.one
  have hmost := hv.most
  have HKE := Lib.hid (fun bv W hI hS => kept2_any l a c (stayL l) bv W hI hok hmost hS (keepOk_of hv hok (stay_keep hz hok)))
  have HI0 := Lib.hid (inv_first hz hok)
  have HKA := Lib.hid (fun t c2 S bv g W (hI : Ins W (.slice (some ⟨g, 0, none⟩) t.length c2) t) hok h4 hS hKO => kept2_any t (some ⟨g, 0, none⟩) c2 S bv W hI hok h4 hS hKO)
  have HID := Lib.hid (fun t g c2 W hI hok => idle_any t (some ⟨g, 0, none⟩) c2 W hI hok)
  obtain ⟨i0, hI0, hI1, hI2, hI3⟩ := info_parts infoB
  obtain ⟨R, hRe⟩ : ∃ R, trimL l = R := ⟨_, rfl⟩
  rw [hRe]
  have hR0 : trimG l.length (keptL l (stayL l)) (outL (stayL l) l.length) = R := hRe
  have HR := Lib.hid hR0
  have hle0 := kept_le (stay_keep hz hok).len
  have HLE := Lib.hid hle0
  clear ht hz hok h hle0 hv hRe hR0
  go_enter Try.func8, Try.ntmps8
  go_wp2_with fail
  refine (HRE.out _ (HIN.out _ (Kept.refl _ w))).mono ?_
  rintro e w1 ⟨ov, rfl, hB, hk1, ho1⟩
  have hB := hB (by first | rfl | trivial)
  go_wp2_with fail
  refine (HSE.out _ (HIN.out _ hk1)).mono ?_
  rintro e w2 ⟨sv, rfl, hS, hk2, ho2⟩
  have hK2 := hk1.trans hk2 (fun _ _ h => h)
  have hB2 := Sl.kept hk2 hB (fun _ _ h => h)
  obtain ⟨sg, sc, rfl, hsl, hsg⟩ := Sl.some_ hS (by rw [List.length_map, sec_len]; omega)
  obtain ⟨og, oc, rfl, hol, hog⟩ := Sl.some_ hB2 (by rw [List.length_map, rchL_len]; omega)
  rw [List.length_map, sec_len] at *
  rw [List.length_map, rchL_len] at *
  have hos : og ≠ sg := by
    have h1 := ho2 sg rfl
    have h2 : og < w1.heap.size := Sl.lt hB _ rfl
    omega
  have hog1 : w.heap.size ≤ og := ho1 og rfl
  have hB3 : Bls w2 (.slice (some ⟨og, 0, none⟩) l.length oc) (mixA l 0) := by rw [mixA_zero]; exact hB2
  clear hB hB2 hk1 hk2 ho1 ho2 HRE HSE hsl hol
  go_wp2_with fail
  go_loopw [29] (fun iv wr => ∃ i : Nat, iv = .int .i64 i ∧ i ≤ l.length ∧ Bls wr (.slice (some ⟨og, 0, none⟩) l.length oc) (mixA l i) ∧ Bls wr (.slice (some ⟨sg, 0, none⟩) l.length sc) (secL l) ∧ Kept (fun _ => False) w wr) (fun iv _ => l.length - (intOf iv).toNat)
  case atStart => exact ⟨0, rfl, by omega, hB3, hS, hK2⟩
  case round =>
    clear hB3 hS hK2
    obtain ⟨i, rfl, hi, hB, hS, hK⟩ := hrel
    by_cases hlt : i < l.length
    case pos =>
      obtain ⟨b, hb⟩ := sec_get hlt
      have d0 := Bls.cell hS hb
      have hsgr := Sl.lt hS _ rfl
      cases b
      case false =>
        have hms := mixA_same hb
        rw [← hms] at hB
        clear hb hms
        go_wp2_with fail
        go_roundw
        case rel => exact ⟨i + 1, by go_num, by omega, hB, hS, hK⟩
        case measure => simp [intOf] <;> omega
      case true =>
        obtain ⟨q, rfl⟩ : ∃ q, i = q + 1 := ⟨i - 1, by
          rcases Nat.eq_zero_or_pos i with rfl | h
          · rw [sec_zero (by omega)] at hb; cases hb
          · omega⟩
        have hsq : (secL l)[q]? = some false := by
          obtain ⟨b2, hb2⟩ := sec_get (l := l) (i := q) (by omega)
          obtain ⟨x, hx⟩ : ∃ x, l[q]? = some x := ⟨_, List.getElem?_eq_getElem (by omega)⟩
          have := sec_succ hx hb2 hlt
          rw [hb] at this
          cases b2
          · exact hb2
          · simp at this
        have hv1 : stayB l (q + 1) = stayB l q := by
          unfold stayB
          rw [if_pos hb, if_neg (by rw [hsq]; simp)]
          rfl
        have e0 := Bls.cell hB (i := q) (x := stayB l q) (by rw [mixA_at (by omega), if_pos (by omega)])
        have e1 := Bls.cell hB (i := q + 1) (x := (rchL l).getD (q + 1) false) (by rw [mixA_at hlt, if_neg (by omega)])
        have ef := Sl.frozen hB (q + 1)
        have hBS := Bls.set hB (i := q + 1) (by rw [mixA_len]; exact hlt) (stayB l q)
        have hms := mixA_set hlt
        rw [hv1] at hms
        rw [← hms] at hBS
        have hkS : Kept (fun k => k = og) wr (wr.setCell ⟨og, q + 1, none⟩ (.bool (stayB l q))) := Kept.setCell (F := fun k => k = og) (Kept.refl _ wr) (fun _ => rfl) _
        have hSS := Bls.fwd hkS hS (fun g hg e => hos (by rw [← e]; exact (Option.some.inj hg).symm))
        have hKS : Kept (fun _ => False) w (wr.setCell ⟨og, q + 1, none⟩ (.bool (stayB l q))) := hK.trans hkS (fun k hk e => by omega)
        clear hb hsq hv1 hms hkS
        generalize stayB l q = sq at *
        generalize (rchL l).getD (q + 1) false = rq at *
        have hcast : ((q + 1 : Nat) : Int) = (q : Int) + 1 := by omega
        rw [hcast]
        clear hcast
        go_wp2_with fail
        go_roundw
        case rel => exact ⟨q + 1 + 1, by go_num, by omega, hBS, hSS, hKS⟩
        case measure => simp [intOf] <;> omega
    case neg =>
      obtain rfl : i = l.length := by omega
      have hnd : decide ((l.length : Int) < l.length) = false := decide_eq_false (by omega)
      rw [mixA_end] at hB
      clear hlt hi hS hos hsg
      go_wp2_with fail
      refine (HKE.out _ _ (HIN.out _ hK) hB).mono ?_
      rintro e w3 ⟨g1, g2, rfl, hA, hN, hg12, hg1, hg2, hk3⟩
      have hK3 := hK.trans hk3 (fun _ _ h => h)
      have hKsz := hK.size
      have hI0 := HI0.out
      have hR := HR.out
      have hL := HLE.out
      generalize keptL l (stayL l) = t0 at *
      generalize outL (stayL l) l.length = n0 at *
      have HI1 := Lib.hid hI0
      have HR1 := Lib.hid hR
      have HID1 := Lib.hid (HID.out t0 g1 t0.length _ hA.ins hI0.ok)
      clear hnd hI0 hR HI0 HR HLE HKE HIN hk3 hB
      go_wp2_with fail
      refine HID1.out.mono ?_
      rintro e w4 ⟨rfl, hk4⟩
      have hA4 : InS w4 (.slice (some ⟨g1, 0, none⟩) t0.length t0.length) t0 := Sl.kept hk4 hA (fun _ _ h => h)
      have hN4 : Ints w4 (.slice (some ⟨g2, 0, none⟩) t0.length t0.length) n0 := Sl.kept hk4 hN (fun _ _ h => h)
      have hK4 := hK3.trans hk4 (fun _ _ h => h)
      have hg1w : w.heap.size ≤ g1 := by omega
      have hg2w : w.heap.size ≤ g2 := by omega
      clear hA hN hK3 hK hk4 HID1 hg1 hg2 hKsz
      go_wp2_with fail
      go_loopg [9, 10, 11] l.length (fun k tv nv av wr => ∃ (t : List In) (n : List Int) (g1 g2 : Nat), tv = .slice (some ⟨g1, 0, none⟩) t.length t.length ∧ nv = .slice (some ⟨g2, 0, none⟩) t.length t.length ∧ av = .int .i64 (idleC t) ∧ InS wr (.slice (some ⟨g1, 0, none⟩) t.length t.length) t ∧ Ints wr (.slice (some ⟨g2, 0, none⟩) t.length t.length) n ∧ Inv l t n ∧ trimG k t n = R ∧ t.length ≤ k ∧ g1 ≠ g2 ∧ w.heap.size ≤ g1 ∧ w.heap.size ≤ g2 ∧ Kept (fun _ => False) w wr)
      case atStart => exact ⟨t0, n0, g1, g2, rfl, rfl, rfl, hA4, hN4, HI1.out, HR1.out, hL, hg12, hg1w, hg2w, hK4⟩
      case round =>
        clear hA4 hN4 HI1 HR1 hL hg12 hg1w hg2w hK4
        obtain ⟨t, n, g1, g2, rfl, rfl, rfl, hA, hN, hI, hR, hL, hg12, hg1w, hg2w, hK⟩ := hrel
        have h1 := hI.va.one
        obtain ⟨f, rfl⟩ : ∃ f, gk = f + 1 := ⟨gk - 1, by omega⟩
        have hR2 : (if idleC t < 0 then (t, n) else trimG f (keptL t (dropL t.length (idleC t).toNat)) (renum n (outL (dropL t.length (idleC t).toNat) t.length))) = R := hR
        clear hR
        by_cases hid : idleC t < 0
        case pos =>
          rw [if_pos hid] at hR2
          have hnd : decide ((0 : Int) ≤ idleC t) = false := decide_eq_false (by omega)
          have HRR := Lib.hid hR2
          clear hR2 hI
          go_wp2_with fail
          go_ret3
          exact ⟨_, _, rfl, by rw [← HRR.out]; exact hA, by rw [← HRR.out]; exact hN, hK, fun g hg => by have e : g1 = g := Option.some.inj hg; omega, fun g hg => by have e : g2 = g := Option.some.inj hg; omega⟩
        case neg =>
          rw [if_neg hid] at hR2
          have hib := idle_of hid
          obtain ⟨a, ha⟩ : ∃ a : Nat, idleC t = a := ⟨(idleC t).toNat, by omega⟩
          rw [ha, Int.toNat_natCast] at hib hR2
          rw [ha]
          have hIn := hI.ok.len
          have hal := (idle_at t.length 0 (show idleS t 0 t.length = a from ha)).2.2
          have hsh := drop_short hib hI.va
          have hIs := inv_step hI hib
          have hnl := hI.num.len
          have HKO := Lib.hid (keepOk_of hI.va hI.ok (drop_keep hI.va hib))
          have HOK := Lib.hid hI.ok
          have hmt := hI.va.most
          have HR2 := Lib.hid hR2
          have HIS := Lib.hid hIs
          have hsame := (kept_num (l := t) (S := dropL t.length a) (by simp [dropL])).same
          have hslen := (kept_num (l := t) (S := dropL t.length a) (by simp [dropL])).len
          have HSAME := Lib.hid hsame
          have hnd : decide ((0 : Int) ≤ (a : Int)) = true := decide_eq_true (by omega)
          have hgt1 : g1 < wr.heap.size := Sl.lt hA _ rfl
          have hgt2 : g2 < wr.heap.size := Sl.lt hN _ rfl
          clear hib hR2 hI hIs hid ha hsame HSAME
          have HSAME := Lib.hid (kept_num (l := t) (S := dropL t.length a) (by simp [dropL])).same
          go_wp2_with (at_make; refine wpList_makeSl (w := wr) rfl (.tmp 58) (.tmp 58) 30 rfl (.bool false) rfl Try.underlying30 hI0 hI1 hI2 hI3 (by omega) t.length rfl rfl (by omega) ?_; intro w5 hB5 hk5)
          have hB5' : Bls w5 (.slice (some ⟨wr.heap.size, 0, none⟩) t.length t.length) (dropM t.length a 0) := by
            rw [dropM_zero]
            unfold Bls
            rw [List.map_replicate]
            exact hB5
          have hA5 := Sl.kept hk5 hA (fun _ _ h => h)
          have hN5 := Sl.kept hk5 hN (fun _ _ h => h)
          have hK5 := hK.trans hk5 (fun _ _ h => h)
          have hbg := Sl.lt hB5 _ rfl
          have hKsz := hK.size
          obtain ⟨bg, hbge⟩ : ∃ bg, bg = wr.heap.size := ⟨_, rfl⟩
          rw [← hbge] at hB5' ⊢
          have hb1 : bg ≠ g1 := by omega
          have hb2 : bg ≠ g2 := by omega
          have hbw : w.heap.size ≤ bg := by omega
          clear hB5 hA hN hK hk5 hbg hbge hgt1 hgt2 hKsz hnd
          go_loopw [62] (fun iv wr => ∃ i : Nat, iv = .int .i64 i ∧ i ≤ t.length ∧ Bls wr (.slice (some ⟨bg, 0, none⟩) t.length t.length) (dropM t.length a i) ∧ InS wr (.slice (some ⟨g1, 0, none⟩) t.length t.length) t ∧ Ints wr (.slice (some ⟨g2, 0, none⟩) t.length t.length) n ∧ Kept (fun _ => False) w wr) (fun iv _ => t.length - (intOf iv).toNat)
          case atStart => exact ⟨0, rfl, by omega, hB5', hA5, hN5, hK5⟩
          case round =>
            clear hB5' hA5 hN5 hK5
            obtain ⟨i, rfl, hi, hB, hA, hN, hK⟩ := hrel
            by_cases hlt : i < t.length
            case pos =>
              have e1 := Bls.cell hB (i := i) (x := false) (by rw [dropM_at hlt, if_neg (by omega)])
              have ef := Sl.frozen hB i
              have hms := dropM_set (a := a) hlt
              have hbne : ((i : Int) != (a : Int)) = (i != a) := by
                by_cases e : i = a
                · subst e; simp
                · rw [bne_iff_ne.2 e, bne_iff_ne.2 (by omega)]
              have hBS := Bls.set hB (i := i) (by rw [dropM_len]; exact hlt) (i != a)
              rw [← hms] at hBS
              have hkS : Kept (fun k => k = bg) wr (wr.setCell ⟨bg, i, none⟩ (.bool (i != a))) := Kept.setCell (F := fun k => k = bg) (Kept.refl _ wr) (fun _ => rfl) _
              have hAS : InS _ (.slice (some ⟨g1, 0, none⟩) t.length t.length) t := Sl.kept hkS hA (fun g hg e => hb1 (by have e2 : g1 = g := Option.some.inj hg; omega))
              have hNS : Ints _ (.slice (some ⟨g2, 0, none⟩) t.length t.length) n := Sl.kept hkS hN (fun g hg e => hb2 (by have e2 : g2 = g := Option.some.inj hg; omega))
              have hKS : Kept (fun _ => False) w (wr.setCell ⟨bg, i, none⟩ (.bool (i != a))) := hK.trans hkS (fun k hk e => by omega)
              clear hms hkS hB hA hN hK
              generalize (i != a) = ia at *
              go_wp2_with fail
              go_roundw
              case rel => exact ⟨i + 1, by go_num, by omega, hBS, hAS, hNS, hKS⟩
              case measure => simp [intOf] <;> omega
            case neg =>
              obtain rfl : i = t.length := by omega
              have hnd : decide ((t.length : Int) < t.length) = false := decide_eq_false (by omega)
              rw [dropM_end] at hB
              have hgt1 : g1 < wr.heap.size := Sl.lt hA _ rfl
              have hgt2 : g2 < wr.heap.size := Sl.lt hN _ rfl
              have HK1 := Lib.hid (HKA.out t t.length (dropL t.length a) (.slice (some ⟨bg, 0, none⟩) t.length t.length) g1 _ hA.ins HOK.out hmt hB HKO.out)
              have hKsz := hK.size
              clear hlt hi hB
              generalize keptL t (dropL t.length a) = u at *
              generalize outL (dropL t.length a) t.length = s at *
              go_wp2_with fail
              refine HK1.out.mono ?_
              rintro e w6 ⟨g3, g4, rfl, hU, hS4, hg34, hg3, hg4, hk6⟩
              have hN6 : Ints w6 (.slice (some ⟨g2, 0, none⟩) t.length t.length) n := Sl.kept hk6 hN (fun _ _ h => h)
              have hK6 := hK.trans hk6 (fun _ _ h => h)
              have hg42 : g4 ≠ g2 := by omega
              have hg3w : w.heap.size ≤ g3 := by omega
              have hg4w : w.heap.size ≤ g4 := by omega
              have hS40 : Ints w6 (.slice (some ⟨g4, 0, none⟩) u.length u.length) (renM n s 0) := by rw [renM_zero]; exact hS4
              clear hA hN hK hk6 HK1 hS4 hnd
              go_wp2_with fail
              go_loopw [80] (fun iv wr => ∃ i : Nat, iv = .int .i64 i ∧ i ≤ u.length ∧ Ints wr (.slice (some ⟨g4, 0, none⟩) u.length u.length) (renM n s i) ∧ InS wr (.slice (some ⟨g3, 0, none⟩) u.length u.length) u ∧ Ints wr (.slice (some ⟨g2, 0, none⟩) t.length t.length) n ∧ Kept (fun _ => False) w wr) (fun iv _ => u.length - (intOf iv).toNat)
              case atStart => exact ⟨0, rfl, by omega, hS40, hU, hN6, hK6⟩
              case round =>
                clear hS40 hU hN6 hK6
                obtain ⟨i, rfl, hi, hS, hU, hN, hK⟩ := hrel
                by_cases hlt : i < u.length
                case pos =>
                  obtain ⟨y, hy⟩ : ∃ y, u[i]? = some y := ⟨_, List.getElem?_eq_getElem hlt⟩
                  obtain ⟨k, x, hsk, htk, _⟩ := HSAME.out i y hy
                  have hkl := (List.getElem?_eq_some_iff.1 htk).1
                  obtain ⟨v, hv⟩ : ∃ v, n[k]? = some v := ⟨_, List.getElem?_eq_getElem (by omega)⟩
                  have s0 := Ints.cell hS (renM_at (n := n) hsk)
                  have n0 := Ints.cell hN hv
                  have sf := Sl.frozen hS i
                  have hms := renM_set (n := n) hsk
                  rw [Int.toNat_natCast, List.getD_eq_getElem?_getD, hv, Option.getD_some] at hms
                  have hSS := Ints.set hS (i := i) (by rw [renM_len]; omega) v
                  rw [← hms] at hSS
                  have hkS : Kept (fun k => k = g4) wr (wr.setCell ⟨g4, i, none⟩ (.int .i64 v)) := Kept.setCell (F := fun k => k = g4) (Kept.refl _ wr) (fun _ => rfl) _
                  have hUS : InS _ (.slice (some ⟨g3, 0, none⟩) u.length u.length) u := Sl.kept hkS hU (fun g hg e => hg34 (by have e2 : g3 = g := Option.some.inj hg; omega))
                  have hNS : Ints _ (.slice (some ⟨g2, 0, none⟩) t.length t.length) n := Sl.kept hkS hN (fun g hg e => hg42 (by have e2 : g2 = g := Option.some.inj hg; omega))
                  have hKS : Kept (fun _ => False) w (wr.setCell ⟨g4, i, none⟩ (.int .i64 v)) := hK.trans hkS (fun k hk e => by omega)
                  clear hms hkS hS hU hN hK hy hsk htk hv
                  go_wp2_with fail
                  go_roundw
                  case rel => exact ⟨i + 1, by go_num, by omega, hSS, hUS, hNS, hKS⟩
                  case measure => simp [intOf] <;> omega
                case neg =>
                  obtain rfl : i = u.length := by omega
                  have hnd : decide ((u.length : Int) < u.length) = false := decide_eq_false (by omega)
                  have hrl : u.length = s.length := hslen.symm
                  rw [show renM n s u.length = renum n s by rw [hrl]; exact renM_end n s] at hS
                  have HID1 := Lib.hid (HID.out u g3 u.length _ hU.ins HIS.out.ok)
                  clear hlt hi hN hrl
                  go_wp2_with fail
                  refine HID1.out.mono ?_
                  rintro e w7 ⟨rfl, hk7⟩
                  have hU7 : InS w7 (.slice (some ⟨g3, 0, none⟩) u.length u.length) u := Sl.kept hk7 hU (fun _ _ h => h)
                  have hS7 : Ints w7 (.slice (some ⟨g4, 0, none⟩) u.length u.length) (renum n s) := Sl.kept hk7 hS (fun _ _ h => h)
                  have hK7 := hK.trans hk7 (fun _ _ h => h)
                  clear hU hS hK hk7 HID1 hnd
                  go_wp2_with fail
                  go_roundg f
                  case measure => omega
                  case rel => exact ⟨u, renum n s, g3, g4, rfl, rfl, rfl, hU7, hS7, HIS.out, HR2.out, by omega, hg34, hg3w, hg4w, hK7⟩

end Go.Proofs.Ytdgniibolfahaaa
