import Derived.Test.YtlkgmcacbfoijaaGreatZbb
import Derived.Test.YtlkgmcacbfoijaaGreatKex
import Derived.Test.YtlkgmcacbfoijaaGreatMh
set_option linter.unusedSimpArgs false
set_option linter.unusedVariables false
namespace Go.Proofs.YtlkgmcacbfoijaaGreat
open Go.RowKit

/-! ### the document's Reached and Back -/
set_option maxHeartbeats 4000000 in
set_option maxRecDepth 100000 in
theorem rReached_any (l : List In) (a : Option Addr) (c : Nat) (w : World) (h : Ins w (.slice a l.length c) l) (hok : InsOk l) :
    Calls Tryz.prog 50 #[.slice a l.length c] w fun e w' => ∃ ov, e = .returned (.tuple #[ov, .int .i64 (checkI l)]) ∧ (checkI l = 0 → Bls w' ov (rchL l)) ∧ Kept (fun _ => False) w w' ∧ ∀ g, ov.ownBlock = some g → w.heap.size ≤ g := by
  have HCK := Lib.hid (fun W hI => rcheck_any l a c W hI hok)
  have HRE := Lib.hid (fun hz W hI => rof_any l a c W hI hok hz)
  have HIN := Lib.hid (fun (W : World) (hk : Kept (fun _ => False) w W) => h.kept hk)
  clear h hok
  by_cases hz : checkI l = 0
  case neg =>
    have hzd : (checkI l != 0) = true := by simpa using hz
    generalize checkI l = r at *
    have HNZ := Lib.hid hz
    clear hz HRE
    go_enter Tryz.func50, Tryz.ntmps50
    go_wp2_with fail
    refine (HCK.out _ (HIN.out _ (Kept.refl _ w))).mono ?_
    rintro e w1 ⟨⟨p, rfl⟩, hk1⟩
    go_wp2_with fail
    go_ret2
    exact ⟨_, rfl, fun h => absurd h HNZ.out, hk1, fun g hg => by simp [Value.ownBlock] at hg⟩
  case pos =>
    have HRE2 := Lib.hid (HRE.out hz)
    rw [hz] at HCK
    rw [hz]
    clear hz HRE
    go_enter Tryz.func50, Tryz.ntmps50
    go_wp2_with fail
    refine (HCK.out _ (HIN.out _ (Kept.refl _ w))).mono ?_
    rintro e w1 ⟨⟨p, rfl⟩, hk1⟩
    go_wp2_with fail
    refine (HRE2.out _ (HIN.out _ hk1)).mono ?_
    rintro e w2 ⟨ov, rfl, hB, hk2, ho2⟩
    have hsz := hk1.size
    go_wp2_with fail
    go_ret2
    exact ⟨_, rfl, fun _ => hB, hk1.trans hk2 (fun _ _ h => h), fun g hg => by have := ho2 g hg; omega⟩
set_option maxHeartbeats 8000000 in
set_option maxRecDepth 100000 in
theorem rBack_any (l : List In) (a : Option Addr) (c : Nat) (w : World) (h : Ins w (.slice a l.length c) l) (hok : InsOk l) :
    Calls Tryz.prog 32 #[.slice a l.length c] w fun e w' => (∃ p n m, e = .returned (.tuple #[.slice p n m, .int .i64 (checkI l)]) ∧ (checkI l = 0 → (0 < n ↔ HasBack l l.length))) ∧ Kept (fun _ => False) w w' := by
  have hlen := hok.len
  have HRE := Lib.hid (fun W hI => rReached_any l a c W hI hok)
  have HNE := Lib.hid (fun (i : Nat) (x : In) (W : World) hI (hx : l[i]? = some x) hk => (by
    have := rnext_any l a c i x W hI hok hx
    rw [nextR_eq (hok.at_ hx) hk] at this
    exact this : Calls Tryz.prog 37 #[.slice a l.length c, .int .i64 i] W fun e w' => ∃ ov, e = .returned ov ∧ Ints w' ov (nextC i x) ∧ Kept (fun _ => False) W w' ∧ ∀ g, ov.ownBlock = some g → W.heap.size ≤ g))
  have HIN := Lib.hid (fun (W : World) (hk : Kept (fun _ => False) w W) => h.kept hk)
  have HH := Lib.hid h
  clear h hok
  by_cases hz : checkI l = 0
  case neg =>
    have hzd : (checkI l != 0) = true := by simpa using hz
    have hzd' : (checkI l == 0) = false := by simpa using hz
    have HZ := Lib.hid hz
    clear hz HNE
    generalize checkI l = r at *
    go_enter Tryz.func32, Tryz.ntmps32
    go_wp2_with fail
    refine (HRE.out w HH.out).mono ?_
    rintro e w1 ⟨ov, rfl, _, hk1, _⟩
    go_wp2_with fail
    refine bodyPost_ret (v := .tuple #[.slice none 0 0, .int .i64 r]) (by simp [results, Tryz.results32, go_sem]) rfl ?_
    exact ⟨⟨none, 0, 0, rfl, fun h => absurd h HZ.out⟩, hk1⟩
  case pos =>
    have hzz := (check_parts hz).1
    have h4096 := (slots_zero hzz).2.1
    rw [hz] at HRE ⊢
    have HRO := Lib.hid (fun (i : Nat) (hr : Rch l i) => rch_ok hz hr)
    have HKN := Lib.hid (fun (i : Nat) (x : In) hx hs => known_of hzz (i := i) (x := x) hx hs)
    have HNO := Lib.hid (fun (i : Nat) (x : In) hx hs (j : Int) hj => next_ok hz (i := i) (x := x) hx hs (j := j) hj)
    clear hz hzz
    obtain ⟨i0, hI0, hI1, hI2, hI3⟩ := info_parts infoPr2
    go_enter Tryz.func32, Tryz.ntmps32
    go_wp2_with fail
    refine (HRE.out w HH.out).mono ?_
    rintro e w1 ⟨ov, rfl, hB, hk1, hbo⟩
    have hB := hB trivial
    clear HRE
    have HBB := Lib.hid hB
    have HIN1 := Lib.hid (fun (W : World) (hk : Kept (fun _ => False) w1 W) => HIN.out W (hk1.trans hk (fun _ _ h => h)))
    clear hB HIN
    go_wp2_with fail
    go_loopw [6, 7] (fun pv iv wr => ∃ (i : Nat) (pv' : Value) (css : List (List Value)), iv = .int .i64 i ∧ pv' = pv ∧ i ≤ l.length ∧ Sl wr 91 2 pv' css ∧ css.length ≤ 10000 * i ∧ (0 < css.length ↔ HasBack l i) ∧ (∀ g, pv'.ownBlock = some g → w1.heap.size ≤ g) ∧ Kept (fun _ => False) w1 wr) (fun _ iv _ => l.length - (intOf iv).toNat)
    case atStart => exact ⟨0, _, [], rfl, rfl, by omega, Sl.nil _ _ _, by simp, ⟨fun h => by simp at h, fun ⟨i, hi, _⟩ => by omega⟩, fun g hg => by simp [Value.ownBlock] at hg, Kept.refl _ _⟩
    case round =>
      obtain ⟨i, pv, css, rfl, rfl, hi, hP, hcl, hcb, hown, hK⟩ := hrel
      have HP := Lib.hid hP
      have HCB := Lib.hid hcb
      have HOW := Lib.hid hown
      have HK := Lib.hid hK
      clear hP hcb hown hK
      by_cases hlt : i < l.length
      case neg =>
        obtain rfl : i = l.length := by omega
        obtain ⟨pa, pc, rfl⟩ := Sl.any HP.out
        have hdl : decide ((l.length : Int) < l.length) = false := decide_eq_false (by omega)
        go_wp2_with fail
        refine bodyPost_ret (v := .tuple #[.slice pa css.length pc, .int .i64 0]) (by simp [results, Tryz.results32, go_sem]) rfl ?_
        exact ⟨⟨_, _, _, rfl, fun _ => HCB.out⟩, hk1.trans HK.out (fun _ _ h => h)⟩
      case pos =>
      have hdl : decide ((i : Int) < l.length) = true := decide_eq_true (by omega)
      obtain ⟨b, hb⟩ : ∃ b, (rchL l)[i]? = some b := ⟨_, List.getElem?_eq_getElem (by rw [rchL_len]; exact hlt)⟩
      have hbr : b = true ↔ Rch l i := by
        have := rchL_get (l := l) hlt
        rw [hb] at this
        rw [Option.some.inj this]
        exact @decide_eq_true_iff _ (Classical.propDecidable _)
      obtain ⟨bg, bcap, rfl, hbcap, hbl⟩ := Sl.some_ (Sl.kept HK.out HBB.out (fun g hg h => h)) (by rw [List.length_map, rchL_len]; omega)
      have hbc := Bls.cell (Sl.kept HK.out HBB.out (fun g hg h => h)) hb
      rw [List.length_map, rchL_len] at *
      cases b
      case false =>
        have HN : Hid (0 < css.length ↔ HasBack l (i + 1)) := Lib.hid (by
          rw [hasBack_succ]
          have : ¬ BackAt l i := fun ⟨x, _, hr, _⟩ => by have := hbr.2 hr; cases this
          rw [HCB.out]
          exact ⟨.inl, fun h => h.resolve_right this⟩)
        clear hbr hb
        go_wp2_with fail
        go_roundw
        case rel => exact ⟨i + 1, pv, css, by simp, rfl, by omega, HP.out, by omega, HN.out, HOW.out, HK.out⟩
        case measure => (simp [intOf]; omega)
      case true =>
      have hr := hbr.1 rfl
      obtain ⟨x, hx⟩ : ∃ x, l[i]? = some x := ⟨_, List.getElem?_eq_getElem hlt⟩
      have hkn := HKN.out i x hx (HRO.out i hr).2
      have HNX := Lib.hid (HNE.out i x wr (HIN1.out _ HK.out) hx hkn)
      have HBI : Hid (BackAt l i ↔ ∃ y ∈ nextC i x, 0 ≤ y ∧ y < (i : Int) + 1) := Lib.hid (by
        constructor
        · rintro ⟨x', hx', _, j, hj, hji⟩
          rw [hx] at hx'
          cases hx'
          obtain ⟨n, e, _⟩ := HNO.out i x hx (HRO.out i hr).2 j hj
          exact ⟨j, hj, by omega, by omega⟩
        · rintro ⟨j, hj, _, hji⟩
          exact ⟨x, hx, hr, j, hj, by omega⟩)
      have hnl := next_len i x
      clear hbr hb hx hkn hr
      go_wp2_with fail
      refine HNX.out.mono ?_
      rintro e w2 ⟨nv, rfl, hN, hk2, hno⟩
      generalize nextC i x = N at *
      have HK3 : Hid (Kept (fun _ => False) w1 w2) := Lib.hid (HK.out.trans hk2 (fun _ _ h => h))
      have HP3 : Hid (Sl w2 91 2 pv css) := Lib.hid (Sl.kept hk2 HP.out (fun g hg h => h))
      obtain ⟨na, nc, rfl⟩ := Sl.any hN
      rw [List.length_map] at hN hno ⊢
      have HSS := Lib.hid hN
      have HPL := Lib.hid (fun g hg => Sl.lt HP.out g hg)
      have HNOO := Lib.hid hno
      have hnl2 : N.length ≤ 2 := hnl
      clear hN HP HK hno HNX
      go_wp2_with fail
      go_loopw [6, 9] (fun pv tv wr => ∃ (t : Nat) (pv' : Value) (css' : List (List Value)), tv = .int .i64 t ∧ pv' = pv ∧ t ≤ i + 1 ∧ Sl wr 91 2 pv' css' ∧ css'.length ≤ 10000 * i + 2 * t ∧ (0 < css'.length ↔ HasBack l i ∨ ∃ y ∈ N, 0 ≤ y ∧ y < (t : Int)) ∧ (∀ g, pv'.ownBlock = some g → w1.heap.size ≤ g ∧ ¬ (Value.slice na N.length nc).ownBlock = some g) ∧ Kept (fun _ => False) w1 wr ∧ Ints wr (.slice na N.length nc) N) (fun _ tv _ => i + 1 - (intOf tv).toNat)
      case atStart => exact ⟨0, _, css, rfl, rfl, by omega, HP3.out, by omega, by rw [HCB.out]; exact ⟨.inl, fun h => h.resolve_right (fun ⟨y, _, h1, h2⟩ => by omega)⟩, fun g hg => ⟨HOW.out g hg, fun e => by
        have h1 := HNOO.out g e
        have h2 := HPL.out g hg
        omega⟩, HK3.out, HSS.out⟩
      case round =>
        clear HP3 HK3 HSS
        obtain ⟨t, pv, css2, rfl, rfl, ht, hP, hcl2, hcb2, hown2, hK, hS⟩ := hrel
        have HP := Lib.hid hP
        have HCB2 := Lib.hid hcb2
        have HOW2 := Lib.hid hown2
        have HK := Lib.hid hK
        have HS := Lib.hid hS
        clear hP hcb2 hown2 hK hS
        by_cases htl : t ≤ i
        case neg =>
          obtain rfl : t = i + 1 := by omega
          have hdt : decide ((((i + 1 : Nat)) : Int) ≤ (i : Int)) = false := decide_eq_false (by omega)
          have HN : Hid (0 < css2.length ↔ HasBack l (i + 1)) := Lib.hid (by rw [hasBack_succ, HCB2.out, HBI.out]; simp)
          go_wp2_with fail
          go_roundw
          case rel => exact ⟨i + 1, pv, css2, by simp, rfl, by omega, HP.out, by omega, HN.out, fun g hg => (HOW2.out g hg).1, HK.out⟩
          case measure => (simp [intOf]; omega)
        case pos =>
        have hdt : decide ((t : Int) ≤ (i : Int)) = true := decide_eq_true (by omega)
        go_wp2_with fail
        go_loopw [6, 10] (fun pv kv wr => ∃ (k : Nat) (pv' : Value) (css' : List (List Value)), kv = .int .i64 k ∧ pv' = pv ∧ k ≤ N.length ∧ Sl wr 91 2 pv' css' ∧ css'.length ≤ 10000 * i + 2 * t + k ∧ (0 < css'.length ↔ (HasBack l i ∨ ∃ y ∈ N, 0 ≤ y ∧ y < (t : Int)) ∨ ∃ y ∈ N.take k, y = (t : Int)) ∧ (∀ g, pv'.ownBlock = some g → w1.heap.size ≤ g ∧ ¬ (Value.slice na N.length nc).ownBlock = some g) ∧ Kept (fun _ => False) w1 wr ∧ Ints wr (.slice na N.length nc) N) (fun _ kv _ => N.length - (intOf kv).toNat)
        case atStart => exact ⟨0, _, css2, rfl, rfl, by omega, HP.out, by omega, by rw [HCB2.out]; simp, HOW2.out, HK.out, HS.out⟩
        case round =>
          clear HP HK HS HCB2 HOW2
          obtain ⟨k, pv, css3, rfl, rfl, hk, hP, hcl3, hcb3, hown3, hK, hS⟩ := hrel
          have HP := Lib.hid hP
          have HCB3 := Lib.hid hcb3
          have HOW3 := Lib.hid hown3
          have HK := Lib.hid hK
          have HS := Lib.hid hS
          clear hP hcb3 hown3 hK hS
          by_cases hkl : k < N.length
          case neg =>
            obtain rfl : k = N.length := by omega
            have hdk : decide ((N.length : Int) < N.length) = false := decide_eq_false (by omega)
            have HN : Hid (0 < css3.length ↔ HasBack l i ∨ ∃ y ∈ N, 0 ≤ y ∧ y < ((t + 1 : Nat) : Int)) := Lib.hid (by
              rw [HCB3.out, List.take_length]
              constructor
              · rintro ((h | ⟨y, h1, h2, h3⟩) | ⟨y, h1, h2⟩)
                · exact .inl h
                · exact .inr ⟨y, h1, h2, by omega⟩
                · exact .inr ⟨y, h1, by omega, by omega⟩
              · rintro (h | ⟨y, h1, h2, h3⟩)
                · exact .inl (.inl h)
                · by_cases e : y = (t : Int)
                  · exact .inr ⟨y, h1, e⟩
                  · exact .inl (.inr ⟨y, h1, h2, by omega⟩))
            go_wp2_with fail
            go_roundw
            case rel => exact ⟨t + 1, pv, css3, by simp, rfl, by omega, HP.out, by omega, HN.out, HOW3.out, HK.out, HS.out⟩
            case measure => (simp [intOf]; omega)
          case pos =>
          have hdk : decide ((k : Int) < N.length) = true := decide_eq_true (by omega)
          obtain ⟨y, hy⟩ : ∃ y, N[k]? = some y := ⟨_, List.getElem?_eq_getElem hkl⟩
          obtain ⟨sg, scap, hsv, hscap, hsgl⟩ := Sl.some_ HS.out (by rw [List.length_map]; omega)
          rw [List.length_map] at hsv
          cases hsv
          have hyc := Ints.cell HS.out hy
          have HTK : Hid ((∃ z ∈ N.take (k + 1), z = (t : Int)) ↔ (∃ z ∈ N.take k, z = (t : Int)) ∨ y = (t : Int)) := Lib.hid (by
            rw [List.take_add_one, hy]
            simp only [Option.toList_some, List.mem_append, List.mem_singleton]
            constructor
            · rintro ⟨z, hz | rfl, h⟩
              · exact .inl ⟨z, hz, h⟩
              · exact .inr h
            · rintro (⟨z, hz, h⟩ | h)
              · exact ⟨z, .inl hz, h⟩
              · exact ⟨y, .inr rfl, h⟩)
          clear hy
          cases hq : (y == (t : Int))
          case false =>
            have hne : y ≠ (t : Int) := by simpa using hq
            have HN : Hid (0 < css3.length ↔ (HasBack l i ∨ ∃ y ∈ N, 0 ≤ y ∧ y < (t : Int)) ∨ ∃ z ∈ N.take (k + 1), z = (t : Int)) := Lib.hid (by rw [HTK.out, HCB3.out]; simp only [hne, or_false])
            clear hne
            go_wp2_with fail
            go_roundw
            case rel => exact ⟨k + 1, pv, css3, by simp, rfl, by omega, HP.out, by omega, HN.out, HOW3.out, HK.out, HS.out⟩
            case measure => (simp [intOf]; omega)
          case true =>
            have HN : Hid ((HasBack l i ∨ ∃ y ∈ N, 0 ≤ y ∧ y < (t : Int)) ∨ ∃ z ∈ N.take (k + 1), z = (t : Int)) := Lib.hid (by rw [HTK.out]; exact .inr (.inr (by simpa using hq)))
            have hcm : css3.length ≤ 300000000 := by omega
            go_wp2_with (at_builtin; refine wpList_push (w := wr) rfl (.tmp 50) (.tmp 54) 64 rfl Tryz.underlying64 hI0 hI1 hI2 hI3 rfl (by omega) pv css3 [.int .i64 i, .int .i64 t] rfl rfl HP.out rfl (by simp [Value.oneCell']) (by omega) (by omega) ?_; intro g5 cap5 w5 hS5 hk5 hg5)
            have HS5 := Lib.hid hS5
            clear hS5
            go_roundw
            case rel => exact ⟨k + 1, _, css3 ++ [[.int .i64 i, .int .i64 t]], by simp, rfl, by omega, HS5.out, by simp; omega, ⟨fun _ => HN.out, fun _ => by simp⟩, fun g hg => by
              have e : g5 = g := Option.some.inj hg
              subst e
              have hs1 := HK.out.size
              have hs2 := hsgl
              rcases hg5 with h | h
              · exact HOW3.out _ h
              · exact ⟨by omega, fun e => by have : sg = g5 := Option.some.inj e; omega⟩, HK.out.trans hk5 (fun k hk e => by have := (HOW3.out k e).1; omega), Sl.kept hk5 HS.out (fun g hg e => (HOW3.out g e).2 hg)⟩
            case measure => (simp [intOf]; omega)

end Go.Proofs.YtlkgmcacbfoijaaGreat

set_option linter.unusedSimpArgs false
set_option linter.unusedVariables false
namespace Go.Proofs.YtlkgmcacbfoijaaGreat
open Go.RowKit

/-! ### the document's Calls -/
/-- what is marked: the k-th is, if it is among these -/
noncomputable def inMark (n : Nat) (J : List Int) : List Bool := (List.range n).map fun (k : Nat) => @decide ((k : Int) ∈ J) (Classical.propDecidable _)
theorem inMark_len (n : Nat) (J : List Int) : (inMark n J).length = n := by simp [inMark]
theorem inMark_get {n k : Nat} (J : List Int) (hk : k < n) : (inMark n J)[k]? = some (@decide ((k : Int) ∈ J) (Classical.propDecidable _)) := by
  unfold inMark
  rw [List.getElem?_map, range_take _ _ hk]
  rfl
theorem inMark_add {n j : Nat} (J : List Int) (hj : j < n) : (inMark n J).set j true = inMark n (J ++ [(j : Int)]) := by
  apply List.ext_getElem?
  intro k
  by_cases hk : k < n
  · rw [inMark_get _ hk]
    by_cases e : j = k
    · subst e
      rw [List.getElem?_set_self (by rw [inMark_len]; exact hj)]
      exact congrArg some (@decide_eq_true _ (Classical.propDecidable _) (by simp)).symm
    · rw [List.getElem?_set_ne e, inMark_get _ hk]
      refine congrArg some ?_
      by_cases h : (k : Int) ∈ J
      · rw [@decide_eq_true _ (Classical.propDecidable _) h, @decide_eq_true _ (Classical.propDecidable _) (List.mem_append_left _ h)]
      · rw [@decide_eq_false _ (Classical.propDecidable _) h, @decide_eq_false _ (Classical.propDecidable _)]
        intro h2
        rcases List.mem_append.1 h2 with h2 | h2
        · exact h h2
        · have : (k : Int) = j := by simpa using h2
          exact e (by omega)
  · rw [List.getElem?_eq_none (by rw [List.length_set, inMark_len]; omega), List.getElem?_eq_none (by rw [inMark_len]; omega)]
theorem inMark_nil (n : Nat) : inMark n [] = List.replicate n false := by
  apply List.ext_getElem?
  intro k
  by_cases hk : k < n
  · rw [inMark_get _ hk, List.getElem?_replicate, if_pos hk]
    exact congrArg some (@decide_eq_false _ (Classical.propDecidable _) (by simp))
  · rw [List.getElem?_eq_none (by rw [inMark_len]; omega), List.getElem?_eq_none (by rw [List.length_replicate]; omega)]
/-- those of the first m that are among these -/
noncomputable def pickL (J : List Int) (m : Nat) : List Int := ((List.range m).filter fun (k : Nat) => @decide ((k : Int) ∈ J) (Classical.propDecidable _)).map fun (k : Nat) => (k : Int)
theorem pickL_succ (J : List Int) (m : Nat) : pickL J (m + 1) = if @decide ((m : Int) ∈ J) (Classical.propDecidable _) = true then pickL J m ++ [(m : Int)] else pickL J m := by
  unfold pickL
  rw [List.range_succ, List.filter_append]
  by_cases h : @decide ((m : Int) ∈ J) (Classical.propDecidable _) = true
  · rw [if_pos h, List.map_append]
    simp [h]
  · rw [if_neg h]
    simp [h]
theorem pickL_len (J : List Int) (m : Nat) : (pickL J m).length ≤ m := by
  unfold pickL
  rw [List.length_map]
  have := List.length_filter_le (fun (k : Nat) => @decide ((k : Int) ∈ J) (Classical.propDecidable _)) (List.range m)
  simpa using this
theorem mem_pickL {J : List Int} {m : Nat} {x : Int} : x ∈ pickL J m ↔ x ∈ J ∧ 0 ≤ x ∧ x < (m : Int) := by
  unfold pickL
  rw [List.mem_map]
  constructor
  · rintro ⟨k, hk, rfl⟩
    rw [List.mem_filter] at hk
    have := List.mem_range.1 hk.1
    exact ⟨@of_decide_eq_true _ (Classical.propDecidable _) hk.2, by omega, by omega⟩
  · rintro ⟨h1, h2, h3⟩
    obtain ⟨n, rfl⟩ : ∃ n : Nat, x = n := ⟨x.toNat, by omega⟩
    exact ⟨n, List.mem_filter.2 ⟨List.mem_range.2 (by omega), @decide_eq_true _ (Classical.propDecidable _) h1⟩, rfl⟩
theorem pickL_rise (J : List Int) (m : Nat) : (pickL J m).Pairwise (· < ·) := by
  unfold pickL
  rw [List.pairwise_map]
  refine (List.Pairwise.filter _ List.pairwise_lt_range).imp ?_
  intro a b h
  omega
/-- the document's row is the program's -/
theorem pick_row {l : List In} (hz : checkI l = 0) (p : Pt2) : pickL (rawL l p.1.toNat p.2.toNat) (partsL l).length = rowL l p := by
  unfold rowL
  obtain ⟨h1, h2⟩ := compact_ok (sortL_ok (rawL l p.1.toNat p.2.toNat)).1
  refine rising_eq (pickL_rise _ _) h1 (fun x => ?_)
  rw [h2, (sortL_ok _).2, mem_pickL]
  constructor
  · exact fun h => h.1
  · intro h
    refine ⟨h, ?_⟩
    unfold rawL at h
    obtain ⟨d, _, hd⟩ := List.mem_flatMap.1 h
    exact nm_in hz hd

end Go.Proofs.YtlkgmcacbfoijaaGreat

