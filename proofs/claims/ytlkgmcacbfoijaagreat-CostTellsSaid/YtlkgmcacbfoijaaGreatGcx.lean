import Derived.Test.YtlkgmcacbfoijaaGreatZbh
set_option linter.unusedSimpArgs false
set_option linter.unusedVariables false
namespace Go.Proofs.YtlkgmcacbfoijaaGreat
open Go.RowKit

/-! ### the document's Calls -/
theorem idx_part {l : List In} (hz : checkI l = 0) {n : Nat} (hn : n < l.length) (hbeg : (n : Int) ∈ beginsL l) : ofC (partsL l) n = idxG n (partsL l) 0 ∧ ∃ k : Nat, ofC (partsL l) n = k ∧ k < (partsL l).length := by
  have hsz := (check_parts hz).1
  obtain ⟨k, hk1, hk2, hk3⟩ := idxG_ok (partsL l) 0 (part_of_begin hbeg)
  have hkb : k < (beginsL l).length := by rw [← parts_len]; exact hk2
  have hkn : (beginsL l).getD k 0 = n := by
    rw [← hk3]
    have hp : (partsL l)[k]? = some ((partsL l)[k]) := List.getElem?_eq_getElem hk2
    obtain ⟨_, hp2⟩ := parts_at hp
    rw [List.getD_eq_getElem?_getD]
    have hg : (partsL l).getD k (0, 0) = (partsL l)[k] := by rw [List.getD_eq_getElem?_getD, hp]; rfl
    rw [hg, hp2]
    rfl
  obtain ⟨k', ho', hk', hall⟩ := part_begins hsz (t := (n : Int)) (by omega) (by omega)
  have hkk : k' = k := by
    have h1 : k ≤ k' := (hall k hkb).1 (by rw [hkn]; exact Int.le_refl _)
    rcases Nat.eq_or_lt_of_le h1 with h | h
    · exact h.symm
    · have h2 := begins_lt hsz h hk'
      have h3 := (hall k' hk').2 (Nat.le_refl _)
      omega
  subst hkk
  exact ⟨by rw [ho', hk1]; simp, k', ho', hk2⟩
theorem nmAt_none {l : List In} {i : Nat} {x : In} (hx : l[i]? = some x) (h : isCallB x = false) : nmAt l i = [] := by
  have : namC i x = none := by unfold namC; rw [if_neg (by rw [h]; decide)]
  unfold nmAt
  rw [hx]
  simp [this]
theorem nmAt_some {l : List In} {i n : Nat} {x : In} (hx : l[i]? = some x) (hr : Rch l i) (h : namC i x = some (n : Int)) : nmAt l i = [idxG n (partsL l) 0] := by
  unfold nmAt
  rw [hx]
  simp only [h]
  exact @if_pos _ (Classical.propDecidable _) hr _ _ _
set_option maxHeartbeats 16000000 in
set_option maxRecDepth 100000 in
theorem rCalls_any (l : List In) (a : Option Addr) (c : Nat) (w : World) (h : Ins w (.slice a l.length c) l) (hok : InsOk l) :
    Calls Tryz.prog 51 #[.slice a l.length c] w fun e w' => (∃ va vn vc, e = .returned (.tuple #[.slice va vn vc, .int .i64 (checkI l)]) ∧ (checkI l = 0 → RowsI w' (.slice va vn vc) (callsL l))) ∧ Kept (fun _ => False) w w' := by
  have hlen := hok.len
  have HRE := Lib.hid (fun W hI => rReached_any l a c W hI hok)
  have HSU := Lib.hid (fun W hI => subs_any l a c W hI hok)
  have HNA := Lib.hid (fun (i : Nat) (x : In) (W : World) (hx : l[i]? = some x) => rnames_any x W (hok.at_ hx))
  have HNE := Lib.hid (fun (i : Nat) (x : In) (hx : l[i]? = some x) hk => names_eq (hok.at_ hx) hk)
  have HIMM := Lib.hid (fun (i : Nat) (x : In) (hx : l[i]? = some x) => (hok.at_ hx).imm)
  have HIN := Lib.hid (fun (W : World) (hk : Kept (fun _ => False) w W) => h.kept hk)
  have HH := Lib.hid h
  clear h hok
  by_cases hz : checkI l = 0
  case neg =>
    have hzd : (checkI l != 0) = true := by simpa using hz
    have hzd' : (checkI l == 0) = false := by simpa using hz
    have HZ := Lib.hid hz
    clear hz HNA HSU HNE
    generalize checkI l = r at *
    go_enter Tryz.func51, Tryz.ntmps51
    go_wp2_with fail
    refine (HRE.out w HH.out).mono ?_
    rintro e w1 ⟨ov, rfl, _, hk1, _⟩
    go_wp2_with fail
    refine bodyPost_ret (v := .tuple #[.slice none 0 0, .int .i64 r]) (by simp [results, Tryz.results51, go_sem]) rfl ?_
    exact ⟨⟨_, _, _, rfl, fun h => absurd h HZ.out⟩, hk1⟩
  case pos =>
    have hzz := (check_parts hz).1
    have hpn : (partsL l).length ≤ 64 := (check_parts hz).2.1
    have hsub0 : subsC l = 0 := by
      unfold subsC
      rw [if_pos hzz]
      have hz2 := hz
      unfold checkI at hz2
      rw [if_pos hzz] at hz2
      by_cases he : endedC l (partsL l) = 0
      · exact he
      · rw [if_neg he] at hz2; exact absurd hz2 he
    have HPO := Lib.hid (parts_ok hzz)
    have HNO := Lib.hid (fun (i : Nat) (x : In) hx hs hc => nam_ok hz (i := i) (x := x) hx hs hc)
    have HNB := Lib.hid (fun (i : Nat) (x : In) (t : Int) hx hr ht => named_begin hz (i := i) (x := x) (t := t) hx hr ht)
    have HIX := Lib.hid (fun (n : Nat) hn hb => idx_part hz (n := n) hn hb)
    have HPR := Lib.hid (fun p => pick_row hz p)
    rw [hz] at HRE ⊢
    rw [hsub0] at HSU
    have HRO := Lib.hid (fun (i : Nat) (hr : Rch l i) => rch_ok hz hr)
    have HKN := Lib.hid (fun (i : Nat) (x : In) hx hs => known_of hzz (i := i) (x := x) hx hs)
    clear hz hzz hsub0
    have hcl : callsL l = (partsL l).map (rowL l) := rfl
    rw [hcl]
    obtain ⟨i0, hI0, hI1, hI2, hI3⟩ := info_parts infoRI
    obtain ⟨j0, hJ0, hJ1, hJ2, hJ3⟩ := info_parts infoB
    go_enter Tryz.func51, Tryz.ntmps51
    go_wp2_with fail
    refine (HRE.out w HH.out).mono ?_
    rintro e w1 ⟨ov, rfl, hB, hk1, hbo⟩
    have hB := hB trivial
    clear HRE
    go_wp2_with fail
    refine (HSU.out w1 (HIN.out _ hk1)).mono ?_
    rintro e w2 ⟨pv, p0, rfl, hP, hk2, hpo2⟩
    have hP := hP trivial
    have hB2 := Sl.kept hk2 hB (fun _ _ h => h)
    have hK2 := hk1.trans hk2 (fun _ _ h => h)
    obtain ⟨pa, pc, rfl⟩ := Sl.any hP
    rw [List.length_map] at hP ⊢
    have HPB := Lib.hid (And.intro hP hB2)
    have HIN2 := Lib.hid (fun (W : World) (hk : Kept (fun _ => False) w2 W) => HIN.out W (hK2.trans hk (fun _ _ h => h)))
    clear hB hB2 hP HIN hk1 hk2 hbo hpo2 HSU
    generalize hn : (partsL l).length = n at *
    go_wp2_with (at_make; refine wpList_makeRow (w := w2) rfl (.tmp 29) (.tmp 29) 92 rfl (.slice none 0 0) 1 rfl (by omega) Tryz.underlying92 hI0 hI1 hI2 hI3 (by omega) n rfl rfl (by omega) ?_; intro w3 hR3 hk3)
    have hG0 : RowsG w3 w2.heap.size n (List.replicate n (.slice none 0 0)) (fun _ => []) := ⟨by simp, by rw [List.map_replicate]; exact hR3, fun k u hu => by
      have := List.eq_of_mem_replicate (List.mem_of_getElem? hu)
      subst this
      exact Sl.nil _ _ _, fun k u g hu hg => by
      have := List.eq_of_mem_replicate (List.mem_of_getElem? hu)
      subst this
      simp [Value.ownBlock] at hg⟩
    generalize hog : w2.heap.size = og at *
    have HG0 := Lib.hid (And.intro hG0 hk3)
    clear hR3 hk3 hG0
    go_loopw [10] (fun iv wr => ∃ (k : Nat) (vals : List Value), iv = .int .i64 k ∧ k ≤ n ∧ RowsG wr og n vals (fun j => if j < k then rowL l ((partsL l).getD j (0, 0)) else []) ∧ (∀ (j : Nat) (u : Value), k ≤ j → vals[j]? = some u → u = .slice none 0 0) ∧ Kept (fun _ => False) w2 wr) (fun iv _ => n - (intOf iv).toNat)
    case atStart => exact ⟨0, _, rfl, by omega, HG0.out.1.congr (fun k _ => by simp), fun j u _ hu => List.eq_of_mem_replicate (List.mem_of_getElem? hu), HG0.out.2⟩
    case round =>
      clear HG0
      obtain ⟨k, vals, rfl, hk, hG, hnil, hK⟩ := hrel
      have HG := Lib.hid hG
      have HK := Lib.hid hK
      clear hG hK
      by_cases hkn : k < n
      case neg =>
        obtain rfl : k = n := by omega
        have hdl : decide ((k : Int) < k) = false := decide_eq_false (by omega)
        go_wp2_with fail
        refine bodyPost_ret (v := .tuple #[.slice (some ⟨og, 0, none⟩) k k, .int .i64 0]) (by simp [results, Tryz.results51, go_sem]) rfl ?_
        refine ⟨⟨_, _, _, rfl, fun _ => ⟨vals, by rw [List.length_map, hn]; exact HG.out.len, HG.out.sl, fun j u R hu hR => ?_⟩⟩, hK2.trans HK.out (fun _ _ h => h)⟩
        rw [List.getElem?_map] at hR
        obtain ⟨p, hp, rfl⟩ := Option.map_eq_some_iff.1 hR
        have hj : j < k := by rw [← hn]; exact (List.getElem?_eq_some_iff.1 hp).1
        have := HG.out.row j u hu
        simp only [if_pos hj] at this
        rwa [List.getD_eq_getElem?_getD, hp] at this
      case pos =>
      have hdl : decide ((k : Int) < n) = true := decide_eq_true (by omega)
      obtain ⟨p, hp⟩ : ∃ p, (partsL l)[k]? = some p := ⟨_, List.getElem?_eq_getElem (by omega)⟩
      obtain ⟨f, t, rfl, hft, htl⟩ := HPO.out.nat hp
      have HGD : Hid ((partsL l).getD k (0, 0) = ((f : Int), (t : Int))) := Lib.hid (by rw [List.getD_eq_getElem?_getD, hp]; rfl)
      have HPK := Lib.hid hp
      have HNL := Lib.hid hnil
      have hbound : f ≤ 1000000 ∧ t ≤ 1000000 := by omega
      clear hp hnil
      go_upto_region 10 with (refine wpList_makeSl (w := wr) rfl (.tmp 38) (.tmp 38) 72 rfl (.bool false) rfl Tryz.underlying72 hJ0 hJ1 hJ2 hJ3 (by omega) n rfl rfl (by omega) ?_; intro wa hM hka)
      have hMk : Bls wa (.slice (some ⟨wr.heap.size, 0, none⟩) n n) (inMark n []) := by
        rw [inMark_nil]
        unfold Bls
        rw [List.map_replicate]
        exact hM
      have hKa := HK.out.trans hka (fun _ _ h => h)
      have hGa := HG.out.kept hka (fun g h => h.elim)
      have hPa := Sl.kept hKa HPB.out.1 (fun g hg h => h)
      obtain ⟨sg, scap, hsv, hgl, hc0, hc1⟩ := Pts.at_ hPa HPK.out
      rw [hn] at hsv
      cases hsv
      have hsw2 : sg < w2.heap.size := Sl.lt HPB.out.1 sg rfl
      have hogr := Sl.lt HG.out.sl og rfl
      have hw2r := HK.out.size
      have hmla := Sl.lt hMk _ rfl
      have HRL := Lib.hid (fun (x : Nat) (u : Value) (g : Nat) (hu : vals[x]? = some u) (hg : u.ownBlock = some g) => Sl.lt (HG.out.row x u hu) g hg)
      generalize hmg : wr.heap.size = mg at *
      obtain ⟨u0, hu0⟩ : ∃ u, vals[k]? = some u := ⟨_, List.getElem?_eq_getElem (by rw [HG.out.len]; exact hkn)⟩
      obtain rfl := HNL.out k u0 (Nat.le_refl _) hu0
      have HA := Lib.hid (And.intro hMk (And.intro hGa (And.intro hKa hu0)))
      have HPC := Lib.hid (And.intro hc0 (And.intro hc1 hgl))
      clear hMk hKa hGa hPa hM hka HG HK hu0
      go_wp2_with fail
      clear hc0 hc1 hgl
      go_loopw [12] (fun iv wr => ∃ i : Nat, iv = .int .i64 i ∧ f ≤ i ∧ i ≤ t ∧ Bls wr (.slice (some ⟨mg, 0, none⟩) n n) (inMark n (rawL l f i)) ∧ Kept (fun g => g = mg) wa wr) (fun iv _ => t - (intOf iv).toNat)
      case atStart => exact ⟨f, rfl, by omega, by omega, by rw [rawL_nil]; exact HA.out.1, Kept.refl _ _⟩
      case round =>
        obtain ⟨i, rfl, hfi, hit, hMM, hK⟩ := hrel
        have hpc1 := (hK.cell (p := ⟨sg, k * 2 + 1, none⟩) HPC.out.2.2 (fun e => by have e : sg = mg := e; omega)).trans HPC.out.2.1
        have hsgr := Nat.lt_of_lt_of_le HPC.out.2.2 hK.size
        have HMM := Lib.hid hMM
        have HK := Lib.hid hK
        clear hMM hK
        by_cases hilt : i < t
        case neg =>
          obtain rfl : i = t := by omega
          have hdi : decide ((i : Int) < i) = false := decide_eq_false (by omega)
          have HGb := Lib.hid (HA.out.2.1.kept HK.out (fun g hg _ => by have hg : g = mg := hg; exact ⟨by omega, fun x u hu e => by have := HRL.out x u g hu e; omega⟩))
          have hJn := rawL_len l f i
          have hRR := HPR.out ((f : Int), (i : Int))
          have hRR : pickL (rawL l f i) n = rowL l ((f : Int), (i : Int)) := hRR
          generalize hJ : rawL l f i = J at *
          have HRR := Lib.hid hRR
          have hub : HGb.out.own = HGb.out.own := rfl
          have HMb := HMM
          have HKb := Lib.hid (HA.out.2.2.1.trans HK.out (fun g hg e => by have e : g = mg := e; omega))
          have HU0 := Lib.hid HA.out.2.2.2
          have hszb := HK.out.size
          clear hub HMM HK hRR hJ
          go_wp2_with fail
          go_loopw [13] (fun jv wr => ∃ (j : Nat) (vals' : List Value) (u : Value), jv = .int .i64 j ∧ j ≤ n ∧ vals'[k]? = some u ∧ RowsG wr og n vals' (fun x => if x < k then rowL l ((partsL l).getD x (0, 0)) else if x = k then pickL J j else []) ∧ (∀ g, u.ownBlock = some g → mg < g) ∧ (∀ x, x ≠ k → vals'[x]? = vals[x]?) ∧ Bls wr (.slice (some ⟨mg, 0, none⟩) n n) (inMark n J) ∧ Kept (fun _ => False) w2 wr) (fun jv _ => n - (intOf jv).toNat)
          case atStart => exact ⟨0, vals, _, rfl, by omega, HU0.out, HGb.out.congr (fun x _ => by
            by_cases e : x < k
            · simp only [if_pos e]
            · by_cases e2 : x = k
              · subst e2; simp [pickL]
              · simp [e, e2]), fun g hg => by simp [Value.ownBlock] at hg, fun _ _ => rfl, HMb.out, HKb.out⟩
          case round =>
            clear HMb HKb HGb HU0 hpc1 hsgr hszb
            obtain ⟨j, vals', u, rfl, hj, hu, hG, hown, hoth, hMM, hK⟩ := hrel
            have hcu := hG.cell hu
            have hfz := Sl.frozen hG.sl k
            have hogl := Sl.lt hG.sl og rfl
            have HG2 := Lib.hid hG
            have HOW := Lib.hid (And.intro hown hoth)
            have HM2 := Lib.hid hMM
            have HK2 := Lib.hid hK
            have HU := Lib.hid hu
            have hml := Sl.lt hMM mg rfl
            by_cases hjn : j < n
            case neg =>
              obtain rfl : j = n := by omega
              have hdj : decide ((j : Int) < j) = false := decide_eq_false (by omega)
              clear hG hown hoth hMM hK hu hcu hfz
              go_wp2_with fail
              go_roundw
              case rel => exact ⟨k + 1, vals', by simp, by omega, HG2.out.congr (fun x hx => by
                by_cases e : x = k
                · subst e
                  rw [if_neg (Nat.lt_irrefl x), if_pos rfl, if_pos (by omega), HGD.out, HRR.out]
                · by_cases e2 : x < k
                  · rw [if_pos e2, if_pos (by omega)]
                  · rw [if_neg e2, if_neg e, if_neg (by omega)]), fun x v hx hv => by
                rw [HOW.out.2 x (by omega)] at hv
                exact HNL.out x v (by omega) hv, HK2.out⟩
              case measure => (simp [intOf]; omega)
            case pos =>
            have hdj : decide ((j : Int) < n) = true := decide_eq_true (by omega)
            obtain ⟨b, hb⟩ : ∃ b, (inMark n J)[j]? = some b := ⟨_, List.getElem?_eq_getElem (by rw [inMark_len]; exact hjn)⟩
            have hbj : @decide ((j : Int) ∈ J) (Classical.propDecidable _) = b := by
              have := inMark_get J hjn
              rw [hb] at this
              exact (Option.some.inj this).symm
            have hbc := Bls.cell hMM hb
            have hps := pickL_succ J j
            rw [hbj] at hps
            have HPS := Lib.hid hps
            have hpl := pickL_len J j
            have hrow := hG.row k u hu
            simp only [if_neg (Nat.lt_irrefl k), if_true] at hrow
            have HROW := Lib.hid hrow
            clear hG hown hoth hMM hK hu hb hbj hps hrow
            cases b
            case false =>
              have HN : Hid (pickL J (j + 1) = pickL J j) := Lib.hid (by rw [HPS.out, if_neg Bool.false_ne_true])
              clear hcu hfz
              go_wp2_with fail
              go_roundw
              case rel => exact ⟨j + 1, vals', u, by simp, by omega, HU.out, by rw [HN.out]; exact HG2.out, HOW.out.1, HOW.out.2, HM2.out, HK2.out⟩
              case measure => (simp [intOf]; omega)
            case true =>
              have HN : Hid (pickL J (j + 1) = pickL J j ++ [(j : Int)]) := Lib.hid (by rw [HPS.out, if_pos rfl])
              have hpb : (pickL J j).length < 1073741824 := by omega
              have hsr := Lib.hid (fun g (e : u.ownBlock = some g) => HOW.out.1 g e)
              go_wp2_with (at_builtin; refine wpList_pushI (w := wr) rfl (.tmp 93) (.tmp 95) rfl u (pickL J j) (j : Int) rfl rfl HROW.out hpb ?_; intro v9 w9 hI9 hk9 hv9; obtain ⟨va, vc, rfl⟩ := Sl.any hI9; rw [List.length_map, List.length_append, List.length_singleton] at hI9 hv9 ⊢; have hc9 : w9.cell? ⟨og, k, none⟩ = some u := (hk9.cell (p := ⟨og, k, none⟩) hogl (fun e => by have := HG2.out.own k u og HU.out e; omega)).trans hcu; have hf9 : w9.frozen? ⟨og, k, none⟩ = false := (hk9.frozen (p := ⟨og, k, none⟩) hogl (fun e => by have := HG2.out.own k u og HU.out e; omega)).trans hfz; have hog9 := Nat.lt_of_lt_of_le hogl hk9.size; have H9 := Lib.hid (And.intro hI9 (And.intro hk9 hv9)); clear hI9 hk9 hv9)
              have hds : ∀ (x : Nat) (v : Value) (g : Nat), x ≠ k → vals'[x]? = some v → v.ownBlock = some g → u.ownBlock ≠ some g := fun x v g hx hv hg e => by
                rw [HOW.out.2 x hx] at hv
                have h1 := HRL.out x v g hv hg
                have h2 := HOW.out.1 g e
                omega
              have hown9 : ∀ g, (Value.slice va ((pickL J j).length + 1) vc).ownBlock = some g → mg < g := fun g hg => by
                rcases H9.out.2.2 g hg with h | h
                · exact HOW.out.1 g h
                · omega
              have hGN := HG2.out.swap HU.out H9.out.2.1 hds _ _ H9.out.1 (fun g hg => by have := hown9 g hg; omega)
              have hkl : k < vals'.length := (List.getElem?_eq_some_iff.1 HU.out).1
              have hKs := Kept.setCell (F := fun g => g = og) (Kept.refl _ w9) (p := ⟨og, k, none⟩) (fun _ => rfl) (Value.slice va ((pickL J j).length + 1) vc)
              have hMN := Sl.kept hKs (Sl.kept H9.out.2.1 HM2.out (fun g hg e => by have e2 : mg = g := Option.some.inj hg; have := HOW.out.1 g e; omega)) (fun g hg e => by have e2 : mg = g := Option.some.inj hg; have e : g = og := e; omega)
              have hKN := (HK2.out.trans H9.out.2.1 (fun g hg e => by have := HOW.out.1 g e; omega)).trans hKs (fun g hg e => by have e : g = og := e; omega)
              go_roundw
              case rel => exact ⟨j + 1, _, _, by simp, by omega, List.getElem?_set_self hkl, hGN.congr (fun x hx => by
                by_cases e : x = k
                · subst e
                  rw [if_pos rfl, if_neg (Nat.lt_irrefl x), if_pos rfl, HN.out]
                · rw [if_neg e, if_neg e]
                  by_cases e2 : x < k
                  · rw [if_pos e2, if_pos e2]
                  · rw [if_neg e2, if_neg e2, if_neg e]), hown9, fun x hx => by rw [List.getElem?_set_ne (fun h => hx h.symm)]; exact HOW.out.2 x hx, hMN, hKN⟩
              case measure => (simp [intOf]; omega)
        case pos =>
        have hdi : decide ((i : Int) < t) = true := decide_eq_true (by omega)
        have hil : i < l.length := by omega
        have hKw : Kept (fun _ => False) w2 wr := HA.out.2.2.1.trans HK.out (fun g hg e => by have e : g = mg := e; omega)
        have hB3 := Sl.kept hKw HPB.out.2 (fun g hg h => h)
        obtain ⟨b, hb⟩ : ∃ b, (rchL l)[i]? = some b := ⟨_, List.getElem?_eq_getElem (by rw [rchL_len]; exact hil)⟩
        have hbr : b = true ↔ Rch l i := by
          have := rchL_get (l := l) hil
          rw [hb] at this
          rw [Option.some.inj this]
          exact @decide_eq_true_iff _ (Classical.propDecidable _)
        obtain ⟨bg, bcap, hbv, hbcap, hbl⟩ := Sl.some_ hB3 (by rw [List.length_map, rchL_len]; omega)
        rw [List.length_map, rchL_len] at hbv
        subst hbv
        have hbc := Bls.cell hB3 hb
        have hrs := rawL_succ l (n := i) hfi
        obtain ⟨x, hx⟩ : ∃ x, l[i]? = some x := ⟨_, List.getElem?_eq_getElem hil⟩
        have HRS := Lib.hid hrs
        have HX := Lib.hid hx
        have HBR2 := Lib.hid hbr
        clear hB3 hb hrs hx hbr
        cases b
        case false =>
          have hnm : nmAt l i = [] := nmAt_not HX.out (fun h => by have := HBR2.out.2 h; cases this)
          have HN : Hid (rawL l f (i + 1) = rawL l f i) := Lib.hid (by rw [HRS.out, hnm, List.append_nil])
          clear hnm
          go_wp2_with fail
          go_roundw
          case rel => exact ⟨i + 1, by simp, by omega, by omega, by rw [HN.out]; exact HMM.out, HK.out⟩
          case measure => (simp [intOf]; omega)
        case true =>
        have hr := HBR2.out.1 rfl
        have hkn2 := HKN.out i x HX.out (HRO.out i hr).2
        have hnam := HNE.out i x HX.out hkn2
        have HNN := Lib.hid (fun W => HNA.out i x W HX.out)
        rw [hnam] at HNN
        obtain ⟨lg, lo, rfl, hlg, d0, d1, d2, d3, d4⟩ := (HIN2.out wr hKw).at_ HX.out
        cases hcb : isCallB x
        case false =>
          rw [hcb] at HNN
          have HN : Hid (rawL l f (i + 1) = rawL l f i) := Lib.hid (by rw [HRS.out, nmAt_none HX.out hcb, List.append_nil])
          clear hnam hkn2 hcb hr hKw
          go_wp2_with fail
          refine (HNN.out _).mono ?_
          rintro e w6 ⟨rfl, hk6⟩
          have HM6 := Lib.hid (Sl.kept hk6 HMM.out (fun _ _ h => h))
          have HK6 := Lib.hid (HK.out.trans hk6 (fun _ _ h => h.elim))
          clear hk6
          go_wp2_with fail
          go_roundw
          case rel => exact ⟨i + 1, by simp, by omega, by omega, by rw [HN.out]; exact HM6.out, HK6.out⟩
          case measure => (simp [intOf]; omega)
        case true =>
        obtain ⟨tn, htn, ht1, ht2, ht3⟩ := HNO.out i x HX.out (HRO.out i hr).2 hcb
        have hnm0 : namC i x = some (tn : Int) := by unfold namC; rw [if_pos hcb, htn]
        have hbeg := HNB.out i x tn HX.out hr hnm0
        obtain ⟨hofi, kk, hofk, hkk⟩ := HIX.out tn ht2 hbeg
        have hHN : rawL l f (i + 1) = rawL l f i ++ [(kk : Int)] := by rw [HRS.out, nmAt_some HX.out hr hnm0, ← hofi, hofk]
        have HN := Lib.hid hHN
        rw [hcb] at HNN
        have himm := HIMM.out i x HX.out
        have htoR : toR l.length i x.imm = tn := by
          unfold toR
          rw [if_neg (by omega)]
          first | (rw [if_neg (by omega)]; omega) | omega
        have HTO := Lib.hid (fun W => rto_any (some ⟨lg, lo, none⟩) c l.length i x.imm W (by omega) (by omega))
        rw [htoR] at HTO
        have HOF := Lib.hid (fun W (hk : Kept (fun _ => False) w2 W) => of_any (partsL l) _ tn W (Sl.kept hk HPB.out.1 (fun g hg h => h)) (by omega))
        rw [hofk] at HOF
        have hKw2 := Lib.hid hKw
        clear hnam hkn2 hcb hr hKw htn ht1 ht2 ht3 hnm0 hbeg hofi hofk hHN htoR
        go_wp2_with fail
        refine (HNN.out _).mono ?_
        rintro e w6 ⟨rfl, hk6⟩
        have d4' := (hk6.cell hlg id).trans d4
        have hlg' := Nat.lt_of_lt_of_le hlg hk6.size
        have hM6 := Sl.kept hk6 HMM.out (fun _ _ h => h)
        have HK6 := Lib.hid (HK.out.trans hk6 (fun _ _ h => h.elim))
        have HKw6 := Lib.hid (hKw2.out.trans hk6 (fun _ _ h => h))
        have hfz := Sl.frozen hM6 kk
        have hml6 := Sl.lt hM6 mg rfl
        have hkkn : kk < n := by omega
        obtain ⟨ob, hob⟩ : ∃ ob, (inMark n (rawL l f i))[kk]? = some ob := ⟨_, List.getElem?_eq_getElem (by rw [inMark_len]; exact hkkn)⟩
        have hmc := Bls.cell hM6 hob
        have HM6 := Lib.hid hM6
        clear hk6 hM6 d0 d1 d2 d3 d4 hlg hob hbc
        go_wp2_with fail
        refine (HTO.out _).mono ?_
        rintro e w7 ⟨rfl, rfl⟩
        go_wp2_with fail
        refine (HOF.out _ HKw6.out).mono ?_
        rintro e w7 ⟨rfl, rfl⟩
        have hMS := Lib.hid (Bls.set HM6.out (i := kk) (by rw [inMark_len]; exact hkkn) true)
        rw [inMark_add _ hkkn, ← HN.out] at hMS
        go_wp2_with fail
        go_roundw
        case rel => exact ⟨i + 1, by simp, by omega, by omega, hMS.out, HK6.out.setCell (fun _ => rfl) _⟩
        case measure => (simp [intOf]; omega)

end Go.Proofs.YtlkgmcacbfoijaaGreat

