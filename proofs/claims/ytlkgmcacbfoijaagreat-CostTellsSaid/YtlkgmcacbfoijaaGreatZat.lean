import Derived.Test.YtlkgmcacbfoijaaGreatZas
import Derived.Test.YtlkgmcacbfoijaaGreatSlx
import Derived.Test.YtlkgmcacbfoijaaGreatZaa
import Derived.Laws.CopyRow
set_option linter.unusedSimpArgs false
set_option linter.unusedVariables false
namespace Go.Proofs.YtlkgmcacbfoijaaGreat
open Go.RowKit

/-! ### Sort and Compact, where there may be nothing -/
set_option maxHeartbeats 8000000 in
set_option maxRecDepth 100000 in
theorem insertion_nil (w : World) : Calls Tryz.prog 90 #[.slice none 0 0, .int .i64 0, .int .i64 0] w fun e w' => e = .returned (.tuple #[]) ∧ Kept (fun _ => False) w w' := by
  go_enter Tryz.func90, Tryz.ntmps90
  go_wp2_with fail
  go_loopw [6] (fun iv wr => iv = .int .i64 1 ∧ Kept (fun _ => False) w wr) (fun _ _ => 0)
  case atStart => exact ⟨rfl, Kept.refl _ w⟩
  case round =>
    obtain ⟨rfl, hK⟩ := hrel
    go_wp2_with fail
    go_end0
    exact ⟨rfl, hK⟩
set_option maxHeartbeats 8000000 in
set_option maxRecDepth 100000 in
theorem len64_nil (w : World) : Calls Tryz.prog 100 #[.int .u64 0] w fun e w' => (∃ k, e = .returned (.int .i64 k)) ∧ Kept (fun _ => False) w w' := by
  go_enter Tryz.func100, Tryz.ntmps100
  go_wp2_with fail
  go_ret
  exact ⟨⟨_, rfl⟩, Kept.refl _ w⟩
set_option maxHeartbeats 8000000 in
set_option maxRecDepth 100000 in
theorem len_nil (w : World) : Calls Tryz.prog 66 #[.int .u64 0] w fun e w' => (∃ k, e = .returned (.int .i64 k)) ∧ Kept (fun _ => False) w w' := by
  have HL := Lib.hid len64_nil
  go_enter Tryz.func66, Tryz.ntmps66
  go_wp2_with fail
  refine (HL.out _).mono ?_
  rintro e w1 ⟨⟨k, rfl⟩, hk1⟩
  go_wp2_with fail
  go_ret
  exact ⟨⟨_, rfl⟩, hk1⟩
set_option maxHeartbeats 8000000 in
set_option maxRecDepth 100000 in
theorem pdq_nil (k : Int) (w : World) : Calls Tryz.prog 65 #[.slice none 0 0, .int .i64 0, .int .i64 0, .int .i64 k] w fun e w' => e = .returned (.tuple #[]) ∧ Kept (fun _ => False) w w' := by
  have HL := Lib.hid insertion_nil
  go_enter Tryz.func65, Tryz.ntmps65
  go_wp2_with fail
  go_loopw [1, 2, 3, 8] (fun av bv kv iv wr => av = .int .i64 0 ∧ bv = .int .i64 0 ∧ kv = .int .i64 k ∧ iv = .bool true ∧ Kept (fun _ => False) w wr) (fun _ _ _ _ _ => 0)
  case atStart => exact ⟨rfl, rfl, rfl, rfl, Kept.refl _ w⟩
  case round =>
    obtain ⟨rfl, rfl, rfl, rfl, hK⟩ := hrel
    go_wp2_with fail
    refine (HL.out _).mono ?_
    rintro e w1 ⟨rfl, hk1⟩
    go_wp2_with fail
    refine bodyPost_ret (results_none rfl _ _ _) rfl ?_
    exact ⟨rfl, hK.trans hk1 (fun _ _ h => h)⟩
set_option maxHeartbeats 8000000 in
set_option maxRecDepth 100000 in
theorem sort_nil (w : World) : Calls Tryz.prog 40 #[.slice none 0 0] w fun e w' => e = .returned (.tuple #[]) ∧ Kept (fun _ => False) w w' := by
  have HL := Lib.hid len_nil
  have HP := Lib.hid pdq_nil
  go_enter Tryz.func40, Tryz.ntmps40
  go_wp2_with fail
  refine (HL.out _).mono ?_
  rintro e w1 ⟨⟨k, rfl⟩, hk1⟩
  go_wp2_with fail
  refine (HP.out k _).mono ?_
  rintro e w2 ⟨rfl, hk2⟩
  go_wp2_with fail
  go_end0
  exact ⟨rfl, hk1.trans hk2 (fun _ _ h => h)⟩
theorem sortL_nil : sortL [] = [] := by simp [sortL]
/-- Sort, whatever there is -/
theorem sortA_any (v : Value) (L : List Int) (w : World) (h : Ints w v L) (hlen : L.length < 1099511627) :
    Calls Tryz.prog 40 #[v] w fun e w' => e = .returned (.tuple #[]) ∧ Ints w' v (sortL L) ∧ Kept (fun k => v.ownBlock = some k) w w' := by
  by_cases hL : L = []
  · subst hL
    rcases h.2.2 with ⟨rfl, _⟩ | ⟨g, cap, cur, rfl, _, hg, hc1, hc2, hc3, hc4⟩
    · refine (sort_nil w).mono ?_
      rintro e w1 ⟨rfl, hk⟩
      exact ⟨rfl, by rw [sortL_nil]; exact Sl.nil _ _ _, hk.mono (fun k _ h => h.elim)⟩
    · refine (Tryz.slices_Sort_int g 0 cap [] w (fun j hj => by simp at hj) (Array.getElem?_eq_some_iff.1 hg).1 (by simp)).mono fun e w' ⟨he, n, os, hw⟩ => ⟨he, ?_, ?_⟩
      · rw [hw]
        rw [sortL_nil]
        refine ⟨fun c hc => by simp at hc, rfl, .inr ⟨g, cap, _, rfl, Nat.zero_le _, heap_put hg, hc1, hc2, ?_, by simp⟩⟩
        simpa [Sort.putCells] using hc3
      · rw [hw]
        exact kept_put.mono (fun k _ e => by rw [e]; rfl)
  · exact sortI_any v L w h hL hlen
set_option maxHeartbeats 8000000 in
set_option maxRecDepth 100000 in
theorem compactN (a : Option Addr) (c : Nat) (w : World) : Calls Tryz.prog 71 #[.slice a 0 c] w fun e w' => e = .returned (.slice a 0 c) ∧ Kept (fun _ => False) w w' := by
  go_enter Tryz.func71, Tryz.ntmps71
  go_wp2_with fail
  go_ret
  exact ⟨rfl, Kept.refl _ w⟩
theorem compact_nilL : Lib.compact ([] : List Int) = [] := rfl
theorem compactA_any (v : Value) (L : List Int) (w : World) (h : Ints w v L) (hlen : L.length < 1099511627) :
    Calls Tryz.prog 71 #[v] w fun e w' => ∃ v', e = .returned v' ∧ Ints w' v' (Lib.compact L) ∧ Kept (fun k => v.ownBlock = some k) w w' ∧ v'.ownBlock = v.ownBlock := by
  by_cases hL : L = []
  · subst hL
    obtain ⟨a, c, rfl⟩ := Sl.any h
    refine (compactN a c w).mono ?_
    rintro e w1 ⟨rfl, hk⟩
    exact ⟨_, rfl, Sl.kept hk h (fun _ _ h => h), hk.mono (fun k _ h => h.elim), rfl⟩
  · exact compactI_any v L w h hL hlen
/-! ### flow.Back -/
def BackAt (l : List In) (i : Nat) : Prop := ∃ x, l[i]? = some x ∧ Rch l i ∧ ∃ j ∈ nextC i x, j ≤ (i : Int)
def HasBack (l : List In) (n : Nat) : Prop := ∃ i, i < n ∧ BackAt l i
theorem hasBack_succ (l : List In) (n : Nat) : HasBack l (n + 1) ↔ HasBack l n ∨ BackAt l n := by
  constructor
  · rintro ⟨i, hi, h⟩
    by_cases e : i = n
    · subst e; exact .inr h
    · exact .inl ⟨i, by omega, h⟩
  · rintro (⟨i, hi, h⟩ | h)
    · exact ⟨i, by omega, h⟩
    · exact ⟨n, by omega, h⟩
theorem infoPr2 : (Tryz.prog.info? 91).map (fun i => (i.zero, i.size, i.bytes)) = some (some (.agg #[.int .i64 0, .int .i64 0]), 2, 16) := by kernel_rfl
theorem sortL_len (L : List Int) : (sortL L).length = L.length := List.length_mergeSort _
set_option maxHeartbeats 8000000 in
set_option maxRecDepth 100000 in
theorem fBack_any (l : List In) (a : Option Addr) (c : Nat) (w : World) (h : Ins w (.slice a l.length c) l) (hok : InsOk l) :
    Calls Tryz.prog 25 #[.slice a l.length c] w fun e w' => (∃ p n m, e = .returned (.tuple #[.slice p n m, .int .i64 (checkI l)]) ∧ (checkI l = 0 → (0 < n ↔ HasBack l l.length))) ∧ Kept (fun _ => False) w w' := by
  have hlen := hok.len
  have HRE := Lib.hid (fun W hI => fReached_any l a c W hI hok)
  have HNE := Lib.hid (fun i x W hI hx hk => next_any l a c i x W hI hok hx hk)
  have HIN := Lib.hid (fun (W : World) (hk : Kept (fun _ => False) w W) => h.kept hk)
  have HH := Lib.hid h
  clear h hok
  by_cases hz : checkI l = 0
  case neg =>
    have hzd : (checkI l != 0) = true := by simpa using hz
    have hzd' : (checkI l == 0) = false := by simpa using hz
    have HZ := Lib.hid hz
    clear hz HNE
    generalize checkI l = r at *
    go_enter Tryz.func25, Tryz.ntmps25
    go_wp2_with fail
    refine (HRE.out w HH.out).mono ?_
    rintro e w1 ⟨ov, rfl, _, hk1, _⟩
    go_wp2_with fail
    refine bodyPost_ret (v := .tuple #[.slice none 0 0, .int .i64 r]) (by simp [results, Tryz.results25, go_sem]) rfl ?_
    exact ⟨⟨none, 0, 0, rfl, fun h => absurd h HZ.out⟩, hk1⟩
  case pos =>
    have hzz := (check_parts hz).1
    rw [hz] at HRE ⊢
    have HRO := Lib.hid (fun (i : Nat) (hr : Rch l i) => rch_ok hz hr)
    have HKN := Lib.hid (fun (i : Nat) (x : In) hx hs => known_of hzz (i := i) (x := x) hx hs)
    clear hz hzz
    obtain ⟨i0, hI0, hI1, hI2, hI3⟩ := info_parts infoPr2
    go_enter Tryz.func25, Tryz.ntmps25
    go_wp2_with fail
    refine (HRE.out w HH.out).mono ?_
    rintro e w1 ⟨ov, rfl, hB, hk1, hbo⟩
    have hB := hB trivial
    clear HRE
    have HBB := Lib.hid hB
    have HIN1 := Lib.hid (fun (W : World) (hk : Kept (fun _ => False) w1 W) => HIN.out W (hk1.trans hk (fun _ _ h => h)))
    clear hB HIN
    go_wp2_with fail
    go_loopw [6, 21] (fun pv iv wr => ∃ (i : Nat) (pv' : Value) (css : List (List Value)), iv = .int .i64 i ∧ pv' = pv ∧ i ≤ l.length ∧ Sl wr 91 2 pv' css ∧ css.length ≤ 2 * i ∧ (0 < css.length ↔ HasBack l i) ∧ (∀ g, pv'.ownBlock = some g → w1.heap.size ≤ g) ∧ Kept (fun _ => False) w1 wr) (fun _ iv _ => l.length - (intOf iv).toNat)
    case atStart => exact ⟨0, _, [], rfl, rfl, by omega, Sl.nil _ _ _, by simp, ⟨fun h => by simp at h, fun ⟨i, hi, _⟩ => by omega⟩, fun g hg => by simp [Value.ownBlock] at hg, Kept.refl _ _⟩
    case round =>
      obtain ⟨i, pv, css, rfl, rfl, hi, hP, hcl, hcb, hown, hK⟩ := hrel
      have HP := Lib.hid hP
      have HCB := Lib.hid hcb
      have HOW := Lib.hid hown
      have HK := Lib.hid hK
      clear hP hcb hown hK
      by_cases hlt : i < l.length
      case neg =>
        obtain rfl : i = l.length := by omega
        obtain ⟨pa, pc, rfl⟩ := Sl.any HP.out
        have hdl : decide ((l.length : Int) < l.length) = false := decide_eq_false (by omega)
        go_wp2_with fail
        refine bodyPost_ret (v := .tuple #[.slice pa css.length pc, .int .i64 0]) (by simp [results, Tryz.results25, go_sem]) rfl ?_
        exact ⟨⟨_, _, _, rfl, fun _ => HCB.out⟩, hk1.trans HK.out (fun _ _ h => h)⟩
      case pos =>
      have hdl : decide ((i : Int) < l.length) = true := decide_eq_true (by omega)
      obtain ⟨b, hb⟩ : ∃ b, (rchL l)[i]? = some b := ⟨_, List.getElem?_eq_getElem (by rw [rchL_len]; exact hlt)⟩
      have hbr : b = true ↔ Rch l i := by
        have := rchL_get (l := l) hlt
        rw [hb] at this
        rw [Option.some.inj this]
        exact @decide_eq_true_iff _ (Classical.propDecidable _)
      obtain ⟨bg, bcap, rfl, hbcap, hbl⟩ := Sl.some_ (Sl.kept HK.out HBB.out (fun g hg h => h)) (by rw [List.length_map, rchL_len]; omega)
      have hbc := Bls.cell (Sl.kept HK.out HBB.out (fun g hg h => h)) hb
      rw [List.length_map, rchL_len] at *
      cases b
      case false =>
        have HN : Hid (0 < css.length ↔ HasBack l (i + 1)) := Lib.hid (by
          rw [hasBack_succ]
          have : ¬ BackAt l i := fun ⟨x, _, hr, _⟩ => by have := hbr.2 hr; cases this
          rw [HCB.out]
          exact ⟨.inl, fun h => h.resolve_right this⟩)
        clear hbr hb
        go_wp2_with fail
        go_roundw
        case rel => exact ⟨i + 1, pv, css, by simp, rfl, by omega, HP.out, by omega, HN.out, HOW.out, HK.out⟩
        case measure => (simp [intOf]; omega)
      case true =>
      have hr := hbr.1 rfl
      obtain ⟨x, hx⟩ : ∃ x, l[i]? = some x := ⟨_, List.getElem?_eq_getElem hlt⟩
      have hkn := HKN.out i x hx (HRO.out i hr).2
      have HNX := Lib.hid (HNE.out i x wr (HIN1.out _ HK.out) hx hkn)
      have HBI : Hid (BackAt l i ↔ ∃ y ∈ sortL (nextC i x), y ≤ (i : Int)) := Lib.hid (by
        constructor
        · rintro ⟨x', hx', _, j, hj, hji⟩
          rw [hx] at hx'
          cases hx'
          exact ⟨j, ((sortL_ok _).2 j).2 hj, hji⟩
        · rintro ⟨j, hj, hji⟩
          exact ⟨x, hx, hr, j, ((sortL_ok _).2 j).1 hj, hji⟩)
      have hnl := next_len i x
      have HSL : Hid ((sortL (nextC i x)).length ≤ 2) := Lib.hid (by rw [sortL_len]; exact hnl)
      clear hbr hb hx hkn hr
      go_wp2_with fail
      refine HNX.out.mono ?_
      rintro e w2 ⟨nv, rfl, hN, hk2, hno⟩
      have HSO := Lib.hid (sortA_any nv (nextC i x) w2 hN (by omega))
      clear HNX hN
      generalize nextC i x = N at *
      go_wp2_with fail
      refine HSO.out.mono ?_
      rintro e w3 ⟨rfl, hS, hk3⟩
      generalize sortL N = S at *
      have hsz2 := hk2.size
      have hsz12 := HK.out.size
      have HK3 : Hid (Kept (fun _ => False) w1 w3) := Lib.hid ((HK.out.trans hk2 (fun _ _ h => h)).trans hk3 (fun k hk e => by have := hno k e; omega))
      have HP3 : Hid (Sl w3 91 2 pv css) := Lib.hid (Sl.kept hk3 (Sl.kept hk2 HP.out (fun g hg h => h)) (fun g hg e => by
        have h1 := hno g e
        have h2 := Sl.lt HP.out g hg
        omega))
      obtain ⟨na, nc, rfl⟩ := Sl.any hS
      rw [List.length_map] at hS ⊢
      have HSS := Lib.hid hS
      have hsl2 := HSL.out
      have HNO := Lib.hid hno
      have HPL := Lib.hid (fun g hg => Sl.lt HP.out g hg)
      clear hS HSO HP HK hk3 hno
      go_wp2_with fail
      go_loopw [6, 36] (fun pv jv wr => ∃ (j : Nat) (pv' : Value) (css' : List (List Value)), jv = .int .i64 j ∧ pv' = pv ∧ j ≤ S.length ∧ Sl wr 91 2 pv' css' ∧ css'.length ≤ 2 * i + j ∧ (0 < css'.length ↔ HasBack l i ∨ ∃ y ∈ S.take j, y ≤ (i : Int)) ∧ (∀ g, pv'.ownBlock = some g → w1.heap.size ≤ g ∧ ¬ (Value.slice na S.length nc).ownBlock = some g) ∧ Kept (fun _ => False) w1 wr ∧ Ints wr (.slice na S.length nc) S) (fun _ jv _ => S.length - (intOf jv).toNat)
      case atStart => exact ⟨0, _, css, rfl, rfl, by omega, HP3.out, by omega, by rw [HCB.out]; simp, fun g hg => ⟨HOW.out g hg, fun e => by
        have h1 := HNO.out g (by rw [List.length_map]; exact e)
        have h2 := HPL.out g hg
        omega⟩, HK3.out, HSS.out⟩
      case round =>
        clear HP3 HK3 HSS
        obtain ⟨j, pv', css', rfl, rfl, hj, hP, hcl', hcb', hown', hK, hS⟩ := hrel
        have HP := Lib.hid hP
        have HCB' := Lib.hid hcb'
        have HOW' := Lib.hid hown'
        have HK := Lib.hid hK
        have HS := Lib.hid hS
        clear hP hcb' hown' hK hS
        by_cases hjl : j < S.length
        case neg =>
          obtain rfl : j = S.length := by omega
          have hdj : decide ((S.length : Int) < S.length) = false := decide_eq_false (by omega)
          have HN : Hid (0 < css'.length ↔ HasBack l (i + 1)) := Lib.hid (by rw [hasBack_succ, HCB'.out, HBI.out, List.take_length])
          go_wp2_with fail
          go_roundw
          case rel => exact ⟨i + 1, pv', css', by simp, rfl, by omega, HP.out, by omega, HN.out, fun g hg => (HOW'.out g hg).1, HK.out⟩
          case measure => (simp [intOf]; omega)
        case pos =>
        have hdj : decide ((j : Int) < S.length) = true := decide_eq_true (by omega)
        obtain ⟨y, hy⟩ : ∃ y, S[j]? = some y := ⟨_, List.getElem?_eq_getElem hjl⟩
        obtain ⟨sg, scap, hsv, hscap, hsgl⟩ := Sl.some_ HS.out (by rw [List.length_map]; omega)
        rw [List.length_map] at hsv
        cases hsv
        have hyc := Ints.cell HS.out hy
        have htk : S.take (j + 1) = S.take j ++ [y] := by rw [List.take_add_one, hy]; rfl
        have HTK : Hid ((∃ z ∈ S.take (j + 1), z ≤ (i : Int)) ↔ (∃ z ∈ S.take j, z ≤ (i : Int)) ∨ y ≤ (i : Int)) := Lib.hid (by
          rw [htk]
          constructor
          · rintro ⟨z, hz, h⟩
            rcases List.mem_append.1 hz with hz | hz
            · exact .inl ⟨z, hz, h⟩
            · have : z = y := by simpa using hz
              subst this
              exact .inr h
          · rintro (⟨z, hz, h⟩ | h)
            · exact ⟨z, List.mem_append_left _ hz, h⟩
            · exact ⟨y, by simp, h⟩)
        clear htk hy
        by_cases hyi : y ≤ (i : Int)
        case neg =>
          have hdy : decide (y ≤ (i : Int)) = false := decide_eq_false hyi
          have HN : Hid (0 < css'.length ↔ HasBack l i ∨ ∃ z ∈ S.take (j + 1), z ≤ (i : Int)) := Lib.hid (by rw [HTK.out, HCB'.out]; simp only [hyi, or_false])
          clear hyi
          go_wp2_with fail
          go_roundw
          case rel => exact ⟨j + 1, pv', css', by simp, rfl, by omega, HP.out, by omega, HN.out, HOW'.out, HK.out, HS.out⟩
          case measure => (simp [intOf]; omega)
        case pos =>
          have hdy : decide (y ≤ (i : Int)) = true := decide_eq_true hyi
          have HN : Hid (HasBack l i ∨ ∃ z ∈ S.take (j + 1), z ≤ (i : Int)) := Lib.hid (by rw [HTK.out]; exact .inr (.inr hyi))
          have hcm : css'.length ≤ 3000000 := by omega
          clear hyi
          go_wp2_with (at_builtin; refine wpList_push (w := wr) rfl (.tmp 43) (.tmp 47) 64 rfl Tryz.underlying64 hI0 hI1 hI2 hI3 rfl (by omega) pv' css' [.int .i64 i, .int .i64 y] rfl rfl HP.out rfl (by simp [Value.oneCell']) (by omega) (by omega) ?_; intro g5 cap5 w5 hS5 hk5 hg5)
          have HS5 := Lib.hid hS5
          clear hS5
          go_roundw
          case rel => exact ⟨j + 1, _, css' ++ [[.int .i64 i, .int .i64 y]], by simp, rfl, by omega, HS5.out, by simp; omega, ⟨fun _ => HN.out, fun _ => by simp⟩, fun g hg => by
            have e : g5 = g := Option.some.inj hg
            subst e
            have hs1 := HK.out.size
            have hs2 := hsgl
            rcases hg5 with h | h
            · exact HOW'.out _ h
            · exact ⟨by omega, fun e => by have : sg = g5 := Option.some.inj e; omega⟩, HK.out.trans hk5 (fun k hk e => by have := (HOW'.out k e).1; omega), Sl.kept hk5 HS.out (fun g hg e => (HOW'.out g e).2 hg)⟩
          case measure => (simp [intOf]; omega)

end Go.Proofs.YtlkgmcacbfoijaaGreat

set_option linter.unusedSimpArgs false
set_option linter.unusedVariables false
namespace Go.Proofs.YtlkgmcacbfoijaaGreat
open Go.RowKit

/-! ### rows of structs: made, copied -/
section
variable {w w' : World} {E sz : Nat} {v : Value} {css : List (List Value)}
/-- all elements are written anew -/
theorem Sl.over {g n cap : Nat} (h : Sl w E sz (.slice (some ⟨g, 0, none⟩) n cap) css) {L : List (List Value)} (hl : L.length = css.length) (hL : ∀ c ∈ L, c.length = sz) :
    ∃ cur, w.heap[g]? = some (.cells cur E (0, 0)) ∧ L.flatten.length ≤ cur.size ∧ Sl (w.setRow g (L.flatten ++ cur.toList.drop L.flatten.length).toArray) E sz (.slice (some ⟨g, 0, none⟩) n cap) L := by
  have hn := h.len
  subst hn
  rcases h.2.2 with ⟨hv, _⟩ | ⟨g', cap', cur, hv, hb, hg, hnc, hcm, hcs, htake⟩
  · simp at hv
  · simp only [Value.slice.injEq, Option.some.injEq, Addr.mk.injEq, and_true, true_and] at hv
    obtain ⟨rfl, rfl⟩ := hv
    have hfl : L.flatten.length = css.length * sz := by rw [flatten_len hL, hl]
    have hle2 : css.length * sz ≤ cap * sz := Nat.mul_le_mul_right _ hnc
    refine ⟨cur, hg, by omega, hL, ?_, ?_⟩
    · rw [flatten_len hL]
    · refine .inr ⟨g, cap, _, by rw [hl], hb, setRow_heap w g cur _ E _ hg, by rw [hl]; exact hnc, hcm, ?_, ?_⟩
      · simp only [List.size_toArray, List.length_append, List.length_drop, Array.length_toList]
        omega
      · rw [hl, ← hfl]
        simp
end
section
variable {P : Program} {w : World} {ops : Array Oper} {rest : List Oper} {o : Oper} {a : Act} {Q : Exit → Act → World → Prop}
/-- 'make([]T, n)' -/
theorem wpList_makeRow (hgd : o.guard = none) (l c : Operand) (t : TypeId) (hop : o.op = Op.makeSlice t l c) {E : TypeId}
    {i0 : TypeInfo} (z : Value) (sz : Nat) (hz1 : z.cells.size = sz) (hpos : 0 < sz) {by_ : Nat} (ht : P.underlying t = some (.slice E)) (hi : P.info? E = some i0) (hz : i0.zero = some z) (hsz : i0.size = sz) (hby : i0.bytes = by_) (hb8 : by_ ≤ 64)
    (n : Nat) (hl : a.eval l = .int .i64 n) (hc : a.eval c = .int .i64 n) (hn : n ≤ 1099511627776)
    (hK : ∀ w', Sl w' E sz (.slice (some ⟨w.heap.size, 0, none⟩) n n) (List.replicate n z.cells.toList) → Kept (fun _ => False) w w' → wpList P ops Q rest (a.put o.dst (.slice (some ⟨w.heap.size, 0, none⟩) n n)) w') : wpList P ops Q (o :: rest) a w := by
  refine wpList_make_full w hgd l c t hop 0 E i0 z sz ht hi hz hsz .i64 .i64 n n n hl hc rfl rfl ?_ (by unfold maxLen; omega) (Nat.zero_le _) ?_
  · rw [hby]
    exact Nat.le_trans (Nat.mul_le_mul hb8 hn) (by omega)
  intro w' h1 h2
  have hall : ∀ c ∈ List.replicate n z.cells.toList, c.length = sz := fun d hd => by rw [(List.mem_replicate.1 hd).2]; simpa using hz1
  refine hK w' ⟨hall, ?_⟩ (Kept.of_grown (Kept.refl _ w) h2 (fun k hk _ => by cases hk))
  have e : (madeCells z.cells (n * sz)).toList = (List.replicate n z.cells.toList).flatten := by
    apply List.ext_getElem?
    intro i
    by_cases hi : i < n * sz
    · have hd := Nat.div_add_mod i sz
      have hm := Nat.mod_lt i hpos
      have hq : i / sz < n := Nat.div_lt_of_lt_mul (by rw [Nat.mul_comm]; exact hi)
      have he : i = i / sz * sz + i % sz := by rw [Nat.mul_comm]; omega
      have h2 := flatten_get hall (i / sz) (i % sz) hm
      rw [← he] at h2
      rw [h2, List.getElem?_replicate, if_pos hq]
      simp only [Option.bind_some]
      rw [Array.getElem?_toList]
      unfold madeCells
      rw [Array.getElem?_map, Array.getElem?_range]
      rw [if_pos hi]
      simp only [Option.map_some]
      rw [hz1, getElem!_pos z.cells (i % sz) (by omega)]
      rw [List.getElem?_eq_getElem (by simpa [hz1] using hm)]
      simp
    · rw [List.getElem?_eq_none (by simp [madeCells]; omega), List.getElem?_eq_none (by rw [flatten_len hall, List.length_replicate]; omega)]
  rw [e] at h1
  rw [List.length_replicate]
  exact h1
/-- 'copy(d, s)', both of one length -/
theorem wpList_copyRow (hgd : o.guard = none) (d s : Operand) (t : TypeId) (ho : o.op = .call { callee := .builtin .copy, args := #[d, s], argTypes := #[t, t] })
    {E sz : Nat} {i0 : TypeInfo} (ht : P.underlying t = some (.slice E)) (hi : P.info? E = some i0) (hsz : i0.size = sz)
    (g n cap m c : Nat) (css L : List (List Value)) (hd : a.eval d = .slice (some ⟨g, 0, none⟩) n cap) (h : Sl w E sz (.slice (some ⟨g, 0, none⟩) n cap) css) (hl : L.length = css.length) (hL : ∀ c ∈ L, c.length = sz ∧ ∀ y ∈ c, y.oneCell' = true)
    (ad : Addr) (hs : a.eval s = .slice (some ad) n c) (hsrc : ∀ j u, L.flatten[j]? = some u → w.cell? (ad.add j) = some u)
    (hK : ∀ w', Sl w' E sz (.slice (some ⟨g, 0, none⟩) n cap) L → Kept (fun k => k = g) w w' → wpList P ops Q rest (a.put o.dst (.int .i64 n)) w') :
    wpList P ops Q (o :: rest) a w := by
  refine wpList_plain hgd fun K hKK => ?_
  obtain ⟨cur, hg, hfit, hs2⟩ := h.over hl (fun c hc => (hL c hc).1)
  have hn := h.len
  have hfl : L.flatten.length = n * sz := by rw [flatten_len (fun c hc => (hL c hc).1), hl, hn]
  have hlo := run_loadCells_list (P := P) w ad L.flatten hsrc
  have hst := run_storeCells_at P g 0 E L.flatten 0 cur w hg (by simpa using hfit) (fun y hy => by
    obtain ⟨c, hc, hyc⟩ := List.mem_flatten.1 hy
    exact (hL c hc).2 y hyc)
  simp only [Nat.add_zero, List.take_zero, List.nil_append, Nat.zero_add] at hst
  rw [hfl] at hlo
  have hmn : Nat.min n n = n := Nat.min_self n
  have hr : (Builtin.copy_ #[t, t] o.type #[.slice (some ⟨g, 0, none⟩) n cap, .slice (some ad) n c]).run P w = .ok (.int .i64 n) (w.setRow g (L.flatten ++ cur.toList.drop L.flatten.length).toArray) := by
    simp [Builtin.copy_, run_underlying ht, sizeOf, typeInfo, hi, hsz, Builtin.lenOf, Builtin.firstCells, hmn, hlo, hst, goInt]
  unfold Oper.wp
  simp [execOp, ho, resolve, invoke, builtin, hs, hd, hr, Result.andThen]
  rw [List.length_flatten] at hs2
  exact hKK _ _ (hK _ hs2 ⟨rfl, rfl, rfl, by simp, fun k _ hk => setRow_other w g k _ hk⟩)
end

end Go.Proofs.YtlkgmcacbfoijaaGreat

