import Derived.Test.YtopdoanfpjaehaaNm
import Derived.Test.YtopdoanfpjaehaaKi
import Derived.Laws.EntriesVeiled
set_option linter.unusedSimpArgs false
set_option linter.unusedVariables false
namespace Go.Proofs.Ytopdoanfpjaehaa
open Go.RowKit

/-! ### made -/
theorem naNN : ∀ w, (isAgg 48).run Try.prog w = .ok false w := fun w => by kernel_rfl
theorem infoS : (Try.prog.info? 32).map (fun i => (i.zero, i.size, i.bytes)) = some (some (.slice none 0 0), 1, 24) := by kernel_rfl
def nx (l : List In) (i : Nat) : List Int := match l[i]?, (secL l)[i]? with
  | some x, some false => nextN i x
  | _, _ => []
/-- the lists of next slots, made up to a slot -/
def nxU (l : List In) (j : Nat) : List (List Int) := (List.range l.length).map fun i => if i < j then nx l i else []
theorem nxU_len (l : List In) (j : Nat) : (nxU l j).length = l.length := by simp [nxU]
theorem nxU_zero (l : List In) : nxU l 0 = List.replicate l.length [] := by
  unfold nxU
  refine List.ext_getElem (by simp) fun i h1 h2 => ?_
  simp
theorem nxU_set (l : List In) {j : Nat} (h : j < l.length) : (nxU l j).set j (nx l j) = nxU l (j + 1) := by
  unfold nxU
  refine List.ext_getElem (by simp) fun i h1 h2 => ?_
  rw [List.getElem_set]
  by_cases e : j = i
  · subst e
    simp
  · rw [if_neg e]
    simp only [List.getElem_map, List.getElem_range]
    by_cases h3 : i < j
    · rw [if_pos h3, if_pos (by omega)]
    · rw [if_neg h3, if_neg (by omega)]
theorem nxU_skip (l : List In) {j : Nat} (h : nx l j = []) : nxU l j = nxU l (j + 1) := by
  unfold nxU
  refine List.ext_getElem (by simp) fun i h1 h2 => ?_
  simp only [List.getElem_map, List.getElem_range]
  by_cases h3 : i < j
  · rw [if_pos h3, if_pos (by omega)]
  · rw [if_neg h3]
    by_cases h4 : i < j + 1
    · obtain rfl : i = j := by omega
      rw [if_pos h4, h]
    · rw [if_neg h4]
theorem nxU_at (l : List In) {i : Nat} (h : i < l.length) : (nxU l l.length)[i]? = some (nx l i) := by
  unfold nxU
  rw [List.getElem?_map, List.getElem?_range h]
  simp [h]
theorem nx_at {l : List In} {i : Nat} {x : In} (hx : l[i]? = some x) (hs : (secL l)[i]? = some false) : nx l i = nextN i x := by
  unfold nx
  rw [hx, hs]
theorem nx_sec {l : List In} {i : Nat} (hs : (secL l)[i]? = some true) : nx l i = [] := by
  unfold nx
  rw [hs]
  split <;> first | rfl | simp_all
theorem nextN_len (i : Nat) (x : In) : (nextN i x).length ≤ 2 := by
  unfold nextN
  repeat' split
  all_goals simp
theorem set_same {M : List Nat} {i v : Nat} (h : M[i]? = some v) : M.set i v = M := by
  refine List.ext_getElem? fun j => ?_
  rw [List.getElem?_set]
  split
  · rename_i e
    subst e
    rw [if_pos (List.getElem?_eq_some_iff.1 h).1, h]
  · rfl
/-- the sum of the rows, read from memory -/
def lsum (w : World) (vg n : Nat) : Nat := ((List.range n).map fun i => match w.cell? ⟨vg, i, none⟩ with | some (.int _ v) => v.toNat | _ => 0).sum
theorem lsum_eq {w : World} {vg n vc : Nat} {L : List Nat} (h : U16s w (.slice (some ⟨vg, 0, none⟩) n vc) L) : lsum w vg n = L.sum := by
  have hn := h.len
  rw [List.length_map] at hn
  subst hn
  unfold lsum
  congr 1
  refine List.ext_getElem (by simp) fun i h1 h2 => ?_
  simp only [List.getElem_map, List.getElem_range]
  rw [U16s.cell h (List.getElem?_eq_getElem h2)]
  rfl
theorem RowM.start {w w3 : World} {l : List In} {a : Option Addr} {c ng vg : Nat} (hk : Kept (fun _ => False) w w3) (h : Ins w (.slice a l.length c) l)
    (hN : Sl w3 32 1 (.slice (some ⟨ng, 0, none⟩) l.length l.length) (List.replicate l.length [.slice none 0 0])) (hL : Sl w3 35 1 (.slice (some ⟨vg, 0, none⟩) l.length l.length) (List.replicate l.length [.int .u16 0]))
    (h1 : w.heap.size ≤ ng) (h2 : w.heap.size ≤ vg) (hne : ng ≠ vg) : RowM w (w3.alloc (.cells #[.slice a l.length c, .slice (some ⟨ng, 0, none⟩) l.length l.length, .slice (some ⟨vg, 0, none⟩) l.length l.length] 50)) w3.heap.size l a c ng l.length vg l.length
      (List.replicate l.length (.slice none 0 0)) (nxU l 0) (List.replicate l.length 0) where
  kept := hk.alloc _
  ins := h
  blk := Blk.new _ _ _
  nx := by rw [List.map_replicate]; exact hN.alloc _
  ns := fun i v M hv hM => by
    rw [nxU_zero] at hM
    rw [(List.mem_replicate.1 (List.mem_of_getElem? hv)).2, (List.mem_replicate.1 (List.mem_of_getElem? hM)).2]
    exact ⟨Sl.nil _ _ _, by simp [Value.ownBlock], by simp [Value.ownBlock]⟩
  vlen := by simp
  nlen := nxU_len _ _
  lv := by unfold U16s; rw [List.map_replicate]; exact hL.alloc _
  new := ⟨h2, h1⟩
  ne := by
    have e1 := Sl.lt hN ng rfl
    have e2 := Sl.lt hL vg rfl
    exact ⟨by omega, hne, by omega⟩
set_option maxHeartbeats 16000000 in
set_option maxRecDepth 100000 in
theorem lmade_any (l : List In) (a : Option Addr) (c : Nat) (w : World) (h : Ins w (.slice a l.length c) l) (hok : InsOk l) (hz : checkI l = 0) :
    Calls Try.prog 17 #[.slice a l.length c] w fun e w' => ∃ g ng nc vg vc V L, e = .returned (.pointer (some ⟨g, 0, none⟩)) ∧ RowM w w' g l a c ng nc vg vc V (nxU l l.length) L ∧ LiveIs l L := by
  have hlen := hok.len
  have hl1 : 1 ≤ l.length := (slots_zero (check_parts hz).1).1
  obtain ⟨i0, hI0, hI1, hI2, hI3⟩ := info_parts infoS
  obtain ⟨j0, hJ0, hJ1, hJ2, hJ3⟩ := info_parts infoU
  have HINS := Lib.hid h
  have HSE := Lib.hid (fun W (hW : Ins W (.slice a l.length c) l) => second_any l a c W hW hok)
  clear h
  go_enter Try.func17, Try.ntmps17
  go_wp2_with fail
  go_step3
  go_wp2_with fail
  refine wp_region_tree [.w, .w, .w, .t, .w, .w, .t, .w, .t, .w] (fun _ => True) [true, true, true, true, true, true, true, true, true, true] (by kernel_rfl) (by kernel_rfl) (by kernel_rfl) ?_
  refine tree_fork2 [false, true, true, true, false, false, false, false, false, false] [true, false, false, false, true, true, true, true, true, true] [false, false, false, false, true, true, true, false, false, false] [true, true, true, true, false, false, false, true, true, true] (by kernel_rfl) ?g1 ?g2
  all_goals simp only [keep]
  case' g1 =>
    repeat (refine mix_w1 ?_; go_big_quiet_step (fail); refine wpQuiet_nil ?_)
    refine mix_t fun Q' hQ' => ?_
    go_wp2_with (at_make; refine wpList_makeRow (w := w.drew) rfl (.tmp 11) (.tmp 11) 48 rfl (.slice none 0 0) 1 rfl (by omega) Try.underlying48 hI0 hI1 hI2 hI3 (by omega) l.length rfl rfl (by omega) ?_; intro w2 hNx hkw2; generalize hng : w.drew.heap.size = ng at hNx ⊢)
    refine mix_done ?_
    try simp only [Act.put, List.setIfInBounds_toArray, List.set_cons_succ, List.set_cons_zero]
    refine tree_fork1 [false, false, false, false, true, true, true, false, false, false] [true, false, false, false, false, false, false, true, true, true] (by kernel_rfl) ?_
    simp only [keep]
    repeat (refine mix_w1 ?_; go_big_quiet_step (fail); refine wpQuiet_nil ?_)
    refine mix_t fun Q' hQ' => ?_
    go_wp2_with (at_make; refine wpList_makeSl (w := w2) rfl (.tmp 14) (.tmp 14) 28 rfl (.int .u16 0) rfl Try.underlying28 hJ0 hJ1 hJ2 hJ3 (by omega) l.length rfl rfl (by omega) ?_; intro w3 hLv hkw3; generalize hvg : w2.heap.size = vg at hLv ⊢)
    refine mix_done ?_
    try simp only [Act.put, List.setIfInBounds_toArray, List.set_cons_succ, List.set_cons_zero]
    refine tree_fork1 [true, false, false, false, false, false, false, true, true, false] [false, false, false, false, false, false, false, false, false, true] (by kernel_rfl) ?_
    simp only [keep]
    repeat (refine mix_w1 ?_; go_big_quiet_step (fail); refine wpQuiet_nil ?_)
    refine mix_t fun Q' hQ' => ?_
    go_wp2_with fail
    refine mix_done ?_
    try simp only [Act.put, List.setIfInBounds_toArray, List.set_cons_succ, List.set_cons_zero]
    refine tree_last (by kernel_rfl) ?_
    simp only [keep]
    repeat (refine mix_w1 ?_; go_big_quiet_step (fail); refine wpQuiet_nil ?_)
    refine mix_done ?_
    have hkk : Kept (fun _ => False) w w3 := ((Kept.refl _ w).drew.trans hkw2 (fun _ _ h => h)).trans hkw3 (fun _ _ h => h)
    have e1 := hkw2.size
    have e2 : w.drew.heap.size = w.heap.size := rfl
    have hNx3 := Sl.kept hkw3 hNx (fun _ _ h => h)
    have hLv3 := hLv
    have e3 := Sl.lt hNx ng rfl
    have hR := RowM.start (ng := ng) (vg := vg) hkk HINS.out hNx3 hLv3 (by omega) (by omega) (by omega)
    generalize hw4 : (w3.alloc (.cells #[.slice a l.length c, .slice (some ⟨ng, 0, none⟩) l.length l.length, .slice (some ⟨vg, 0, none⟩) l.length l.length] 50)) = w4 at hR ⊢
    generalize hg4 : w3.heap.size = g at hR ⊢
    clear hkk e1 e2 e3 hw4 hg4 hNx3 hLv3 hNx hLv hkw2 hkw3 hng hvg
    clear w2 w3
  case' g2 =>
    repeat (refine mix_w1 ?_; go_big_quiet_step (fail); refine wpQuiet_nil ?_)
    refine mix_t fun Q' hQ' => ?_
    go_wp2_with (at_make; refine wpList_makeSl (w := w.drew) rfl (.tmp 14) (.tmp 14) 28 rfl (.int .u16 0) rfl Try.underlying28 hJ0 hJ1 hJ2 hJ3 (by omega) l.length rfl rfl (by omega) ?_; intro w2 hLv hkw2; generalize hvg : w.drew.heap.size = vg at hLv ⊢)
    refine mix_done ?_
    try simp only [Act.put, List.setIfInBounds_toArray, List.set_cons_succ, List.set_cons_zero]
    refine tree_fork1 [false, true, true, true, false, false, false, false, false, false] [true, false, false, false, false, false, false, true, true, true] (by kernel_rfl) ?_
    simp only [keep]
    repeat (refine mix_w1 ?_; go_big_quiet_step (fail); refine wpQuiet_nil ?_)
    refine mix_t fun Q' hQ' => ?_
    go_wp2_with (at_make; refine wpList_makeRow (w := w2) rfl (.tmp 11) (.tmp 11) 48 rfl (.slice none 0 0) 1 rfl (by omega) Try.underlying48 hI0 hI1 hI2 hI3 (by omega) l.length rfl rfl (by omega) ?_; intro w3 hNx hkw3; generalize hng : w2.heap.size = ng at hNx ⊢)
    refine mix_done ?_
    try simp only [Act.put, List.setIfInBounds_toArray, List.set_cons_succ, List.set_cons_zero]
    refine tree_fork1 [true, false, false, false, false, false, false, true, true, false] [false, false, false, false, false, false, false, false, false, true] (by kernel_rfl) ?_
    simp only [keep]
    repeat (refine mix_w1 ?_; go_big_quiet_step (fail); refine wpQuiet_nil ?_)
    refine mix_t fun Q' hQ' => ?_
    go_wp2_with fail
    refine mix_done ?_
    try simp only [Act.put, List.setIfInBounds_toArray, List.set_cons_succ, List.set_cons_zero]
    refine tree_last (by kernel_rfl) ?_
    simp only [keep]
    repeat (refine mix_w1 ?_; go_big_quiet_step (fail); refine wpQuiet_nil ?_)
    refine mix_done ?_
    have hkk : Kept (fun _ => False) w w3 := ((Kept.refl _ w).drew.trans hkw2 (fun _ _ h => h)).trans hkw3 (fun _ _ h => h)
    have e1 := hkw2.size
    have e2 : w.drew.heap.size = w.heap.size := rfl
    have hNx3 := hNx
    have hLv3 := Sl.kept hkw3 hLv (fun _ _ h => h)
    have e3 := Sl.lt hLv vg rfl
    have hR := RowM.start (ng := ng) (vg := vg) hkk HINS.out hNx3 hLv3 (by omega) (by omega) (by omega)
    generalize hw4 : (w3.alloc (.cells #[.slice a l.length c, .slice (some ⟨ng, 0, none⟩) l.length l.length, .slice (some ⟨vg, 0, none⟩) l.length l.length] 50)) = w4 at hR ⊢
    generalize hg4 : w3.heap.size = g at hR ⊢
    clear hkk e1 e2 e3 hw4 hg4 hNx3 hLv3 hNx hLv hkw2 hkw3 hng hvg
    clear w2 w3
  all_goals
    go_wp2_with fail
    refine (HSE.out _ hR.insw).mono ?_
    rintro e w5 ⟨sv, rfl, hS, hk5, hsv⟩
    have hR5 := hR.quiet hk5
    obtain ⟨sg, sc, rfl, hsl, hsg⟩ := Sl.some_ hS (by rw [List.length_map, sec_len]; exact hl1)
    rw [List.length_map, sec_len] at *
    have hsn : sg ≠ ng ∧ sg ≠ vg := by
      have h1 := hsv sg rfl
      have h2 := Sl.lt hR.nx ng rfl
      have h3 := Sl.lt hR.lv vg rfl
      exact ⟨by omega, by omega⟩
    clear hR hk5 hsv hsl hsg
    go_wp2_with fail
    go_loopw [22] (fun iv wr => ∃ (j : Nat) (V : List Value), iv = .int .i64 j ∧ j ≤ l.length ∧ RowM w wr g l a c ng l.length vg l.length V (nxU l j) (List.replicate l.length 0) ∧ Bls wr (.slice (some ⟨sg, 0, none⟩) l.length sc) (secL l)) (fun iv _ => l.length - (intOf iv).toNat)
    case atStart => exact ⟨0, _, rfl, by omega, hR5, hS⟩
    case round =>
      clear hR5 hS
      obtain ⟨j, V, rfl, hj, hR, hS⟩ := hrel
      by_cases hlt : j < l.length
      case pos =>
        obtain ⟨x, hx⟩ : ∃ x, l[j]? = some x := ⟨_, List.getElem?_eq_getElem hlt⟩
        obtain ⟨b, hb⟩ := sec_get hlt
        have hsc := Bls.cell hS hb
        have hc1 := hR.blk.cell 1
        cases b
        case true =>
          have HRN : Hid (RowM w wr g l a c ng l.length vg l.length V (nxU l (j + 1)) (List.replicate l.length 0)) := Lib.hid (by rw [← nxU_skip l (nx_sec hb)]; exact hR)
          clear hx hb
          go_wp2_with fail
          go_roundw
          case rel => exact ⟨j + 1, V, by go_num, by omega, HRN.out, hS⟩
          case measure => simp [intOf]; omega
        case false =>
          have HNX := Lib.hid (fun W (hW : Ins W (.slice a l.length c) l) => lnext_any l a c j x W hW hok hx)
          have HSET := Lib.hid (fun W (hW : RowM w W g l a c ng l.length vg l.length V (nxU l j) (List.replicate l.length 0)) ov (hv : Ints W ov (nextN j x)) hb2 => (by rw [← nxU_set l hlt, nx_at hx hb]; exact hW.setN hlt hv hb2 : RowM w (W.setCell ⟨ng, j, none⟩ ov) g l a c ng l.length vg l.length (V.set j ov) (nxU l (j + 1)) (List.replicate l.length 0)))
          obtain ⟨vj, hvj⟩ : ∃ v, V[j]? = some v := ⟨_, List.getElem?_eq_getElem (by rw [hR.vlen]; exact hlt)⟩
          have HVJ := Lib.hid hvj
          clear hx hb hvj
          go_wp2_with fail
          refine wp_region_mix [.w, .w, .w, .l, .w, .w, .w, .k, .w, .t] (by kernel_rfl) (by kernel_rfl) (fun w' => w'.cell? ⟨g, 1, none⟩ = some (.slice (some ⟨ng, 0, none⟩) l.length l.length)) ?_
          repeat (refine mix_w1 ?_; go_big_quiet_step (fail); refine wpQuiet_nil ?_)
          refine mix_load1 hc1 rfl 48 (.tmp 32) rfl naNN ⟨g, 1, none⟩ (.slice (some ⟨ng, 0, none⟩) l.length l.length) rfl (fun w' hw' => hw') ?_
          simp only [Act.put, List.setIfInBounds_toArray, List.set_cons_succ, List.set_cons_zero]
          repeat (refine mix_w1 ?_; go_big_quiet_step (fail); refine wpQuiet_nil ?_)
          refine mix_k hc1 fun Q' hQ' => ?_
          go_wp2_with fail
          have hRd := hR.quiet (Kept.refl _ wr).drew
          refine (HNX.out _ hRd.insw).mono ?_
          rintro e w6 ⟨ov, rfl, hov, hk6, hown⟩
          obtain ⟨oA, oc, hoe⟩ := Sl.any hov
          rw [List.length_map] at hoe
          subst hoe
          have hR6 := hRd.quiet hk6
          have hb6 : (Value.slice oA (nextN j x).length oc).ownBlock ≠ some vg ∧ (Value.slice oA (nextN j x).length oc).ownBlock ≠ some ng := by
            have q1 := Sl.lt hR.nx ng rfl
            have q2 := Sl.lt hR.lv vg rfl
            have q3 : wr.drew.heap.size = wr.heap.size := rfl
            exact ⟨fun e => by have := hown _ e; omega, fun e => by have := hown _ e; omega⟩
          have hS6 : Bls w6 (.slice (some ⟨sg, 0, none⟩) l.length sc) (secL l) := Sl.kept hk6 hS.drew (fun _ _ h => h)
          have hR7 := HSET.out _ hR6 _ hov hb6
          have hS7 : Bls (w6.setCell ⟨ng, j, none⟩ (.slice oA (nextN j x).length oc)) (.slice (some ⟨sg, 0, none⟩) l.length sc) (secL l) := hS6.far (p := ⟨ng, j, none⟩) (by simpa [Value.ownBlock] using hsn.1) _
          have hc6 : w6.cell? ⟨g, 1, none⟩ = some (.slice (some ⟨ng, 0, none⟩) l.length l.length) := hR6.blk.cell 1
          have hcj : w6.cell? ⟨ng, j, none⟩ = some vj := by
            have := Sl.cell hR6.nx (i := j) (c := vcell vj) (by rw [List.getElem?_map, HVJ.out]; rfl) (k := 0) (by omega)
            simpa [vcell] using this
          have hfj := hR6.nx.frozen j
          go_wp2_with fail
          refine hQ' _ _ hc6 ?_
          clear hQ' Q'
          repeat (refine mix_w1 ?_; go_big_quiet_step (fail); refine wpQuiet_nil ?_)
          refine mix_t fun Q' hQ' => ?_
          go_wp2_with fail
          first | refine mix_nil ?_ | refine mix_done ?_
          go_wp2_with fail
          go_roundw
          case rel => exact ⟨j + 1, _, by go_num, by omega, hR7, hS7⟩
          case measure => simp [intOf]; omega
      case neg =>
        obtain rfl : j = l.length := by omega
        go_wp2_with fail
        go_step3
        go_wp2_with fail
        go_loopg [] (65536 * l.length + 1) (fun k wr => ∃ L, RowM w wr g l a c ng l.length vg l.length V (nxU l l.length) L ∧ LInv l L ∧ L.sum + k = 65536 * l.length + 1 ∧ Bls wr (.slice (some ⟨sg, 0, none⟩) l.length sc) (secL l))
        case atStart => exact ⟨_, hR, LInv.start l, by simp, hS⟩
        case round =>
          clear hR hS
          obtain ⟨L, hR, hI, hgk, hS⟩ := hrel
          go_wp2_with fail
          go_loopw [7, 8] (fun cv kv wr => ∃ (b : Bool) (k : Int) (M : List Nat), cv = .bool b ∧ kv = .int .i64 k ∧ -1 ≤ k ∧ k < l.length ∧ RowM w wr g l a c ng l.length vg l.length V (nxU l l.length) M ∧ LInv l M ∧ Bls wr (.slice (some ⟨sg, 0, none⟩) l.length sc) (secL l) ∧ L.sum ≤ M.sum ∧ (b = true → L.sum < M.sum) ∧ (b = false → M = L ∧ ∀ (j : Nat) (x : In), k < j → l[j]? = some x → (secL l)[j]? = some false → L[j]? = some (newN L j x))) (fun _ kv _ => (intOf kv + 1).toNat)
          case atStart => exact ⟨false, (l.length : Int) - 1, L, rfl, by go_num, by omega, by omega, hR, hI, hS, by omega, fun h => by (cases h), fun _ => ⟨rfl, fun j x h1 h2 _ => by have := (List.getElem?_eq_some_iff.1 h2).1; omega⟩⟩
          case round =>
            clear hR hI hS
            obtain ⟨b, k, M, rfl, rfl, hk1, hk2, hR, hI, hS, hle, hb1, hb2⟩ := hrel
            by_cases hk : k < 0
            case pos =>
              cases b
              case true =>
                have hlt := hb1 rfl
                have hms := sum_most hI.lt
                rw [hI.len] at hms
                clear hb1 hb2
                go_wp2_with fail
                go_roundg (65536 * l.length + 1 - M.sum)
                case measure => omega
                case rel => exact ⟨M, hR, hI, by omega, hS⟩
              case false =>
                obtain ⟨rfl, hfix⟩ := hb2 rfl
                have HL := Lib.hid (LiveIs.of hI (fun i x hx hs => hfix i x (by omega) hx hs))
                have hc2 := hR.blk.cell 2
                clear hb1 hb2 hfix
                go_wp2_with fail
                rw [Exit.noGoto_ret]
                go_ret
                exact ⟨_, _, _, _, _, _, _, rfl, hR, HL.out⟩
            case neg =>
              obtain ⟨i, rfl⟩ : ∃ i : Nat, k = i := ⟨k.toNat, by omega⟩
              have hil : i < l.length := by omega
              obtain ⟨x, hx⟩ : ∃ x, l[i]? = some x := ⟨_, List.getElem?_eq_getElem hil⟩
              obtain ⟨s, hs⟩ := sec_get hil
              have hsc := Bls.cell hS hs
              have hBB := Lib.hid hb1
              have HB2 := Lib.hid hb2
              cases s
              case true =>
                have HB3 := Lib.hid (fun (hb : b = false) => (⟨(HB2.out hb).1, fun (j : Nat) (y : In) (h1 : (i : Int) - 1 < j) h2 h3 => by
                  by_cases e : j = i
                  · subst e
                    rw [hs] at h3
                    cases h3
                  · exact (HB2.out hb).2 j y (by omega) h2 h3⟩ : M = L ∧ ∀ (j : Nat) (y : In), (i : Int) - 1 < j → l[j]? = some y → (secL l)[j]? = some false → L[j]? = some (newN L j y)))
                clear hx hs hb1 hb2
                go_wp2_with fail
                go_roundw
                case rel => exact ⟨b, (i : Int) - 1, M, rfl, by go_num, by omega, by omega, hR, hI, hS, hle, hBB.out, HB3.out⟩
                case measure => (simp [intOf]; try omega)
              case false =>
                have hxo := hok.at_ hx
                have hri := right_of hz hx hs
                have hkn := right_known hri
                have hsame := behN_same (L := M) (nextN_same hxo hkn (i := i))
                obtain ⟨v0, hv0⟩ : ∃ v0, M[i]? = some v0 := ⟨_, List.getElem?_eq_getElem (by rw [hI.len]; exact hil)⟩
                obtain ⟨hup1, hup2⟩ := hI.up hx hs hv0
                have hr : v0 ||| (readsN x ||| lessN (behN M (nextN i x)) (writesN x)) = newN M i x := by rw [hsame]; exact hup1
                have hrng : ∀ t ∈ nextN i x, 0 ≤ t ∧ t < l.length := fun t ht => by
                  obtain ⟨n, rfl, hn, _⟩ := next_ok hz hx hs ((nextN_same hxo hkn t).1 ht)
                  omega
                have HJ := Lib.hid (fun W (hW : RowM w W g l a c ng l.length vg l.length V (nxU l l.length) M) => ljoins_any hW hx hxo hri (by rw [nxU_at l hil, nx_at hx hs]) hrng hI.lt (by omega) (nextN_len i x) hv0 hr)
                have HST := Lib.hid (hI.step hx hs hri)
                have hsum := sum_set (v := newN M i x) hv0
                cases d : ((newN M i x : Int) != (v0 : Int))
                case false =>
                  have e : newN M i x = v0 := by simp at d; omega
                  have hset : M.set i (newN M i x) = M := by rw [e]; exact set_same hv0
                  rw [d, hset] at HJ
                  have HB3 := Lib.hid (fun (hb : b = false) => (⟨(HB2.out hb).1, fun (j : Nat) (y : In) (h1 : (i : Int) - 1 < j) h2 h3 => by
                    by_cases ej : j = i
                    · subst ej
                      rw [hx] at h2
                      cases h2
                      rw [← (HB2.out hb).1, hv0, e]
                    · exact (HB2.out hb).2 j y (by omega) h2 h3⟩ : M = L ∧ ∀ (j : Nat) (y : In), (i : Int) - 1 < j → l[j]? = some y → (secL l)[j]? = some false → L[j]? = some (newN L j y)))
                  have HI := Lib.hid hI
                  clear hx hs hb1 hb2 hsame hv0 hup1 hup2 hr hrng hsum e hset d hkn hri hxo hI HST
                  go_wp2_with fail
                  refine (HJ.out _ hR).mono ?_
                  rintro e w7 ⟨rfl, hR7, hk7⟩
                  have hS7 : Bls w7 (.slice (some ⟨sg, 0, none⟩) l.length sc) (secL l) := Sl.kept hk7 hS (fun g' hg' e => by
                    have h1 : sg = g' := Option.some.inj hg'
                    have h2 : g' = vg := e
                    omega)
                  go_wp2_with fail
                  go_roundw
                  case rel => exact ⟨b, (i : Int) - 1, M, rfl, by go_num, by omega, by omega, hR7, HI.out, hS7, hle, hBB.out, HB3.out⟩
                  case measure => (simp [intOf]; try omega)
                case true =>
                  have hne : newN M i x ≠ v0 := fun e => by
                    rw [e] at d
                    simp at d
                  rw [d] at HJ
                  have hlt : L.sum < (M.set i (newN M i x)).sum := by omega
                  have HLT := Lib.hid hlt
                  clear hx hs hb1 hb2 hsame hv0 hup1 hup2 hr hrng hsum d hkn hri hxo hI hne hlt
                  go_wp2_with fail
                  refine (HJ.out _ hR).mono ?_
                  rintro e w7 ⟨rfl, hR7, hk7⟩
                  have hS7 : Bls w7 (.slice (some ⟨sg, 0, none⟩) l.length sc) (secL l) := Sl.kept hk7 hS (fun g' hg' e => by
                    have h1 : sg = g' := Option.some.inj hg'
                    have h2 : g' = vg := e
                    omega)
                  go_wp2_with fail
                  go_roundw
                  case rel => exact ⟨true, (i : Int) - 1, _, rfl, by go_num, by omega, by omega, hR7, HST.out, hS7, by have := HLT.out; omega, fun _ => HLT.out, fun h => by cases h⟩
                  case measure => (simp [intOf]; try omega)

end Go.Proofs.Ytopdoanfpjaehaa
