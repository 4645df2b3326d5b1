import Derived.Test.YtopdoanfpjaehaaNo
import Derived.Test.YtopdoanfpjaehaaKe
import Derived.Test.YtopdoanfpjaehaaJy
set_option linter.unusedSimpArgs false
set_option linter.unusedVariables false
namespace Go.Proofs.Ytopdoanfpjaehaa
open Go.RowKit

/-! ### the document's Live and Dead -/
theorem U16s.at_ {w : World} {v : Value} {L : List Nat} (h : U16s w v L) {i x : Nat} (hi : L[i]? = some x) : ∃ g c, v = .slice (some ⟨g, 0, none⟩) L.length c ∧ g < w.heap.size ∧ w.cell? ⟨g, i, none⟩ = some (.int .u16 x) := by
  have hlt := (List.getElem?_eq_some_iff.1 hi).1
  obtain ⟨g, c, rfl, hc, hg⟩ := Sl.some_ h (by rw [List.length_map]; omega)
  rw [List.length_map] at *
  exact ⟨g, c, rfl, hg, U16s.cell h hi⟩
set_option maxHeartbeats 4000000 in
set_option maxRecDepth 100000 in
theorem rAfter_any (l : List In) (a : Option Addr) (c i : Nat) (x : In) (w : World) (h : Ins w (.slice a l.length c) l) (hok : InsOk l) (hx : l[i]? = some x) :
    Calls Try.prog 55 #[.slice a l.length c, .int .i64 i] w fun e w' => ∃ ov, e = .returned ov ∧ Ints w' ov (nextR i x) ∧ Kept (fun _ => False) w w' ∧ ∀ g, ov.ownBlock = some g → w.heap.size ≤ g := by
  have HN := Lib.hid (rnext_any l a c i x w h hok hx)
  clear h hok hx
  go_enter Try.func55, Try.ntmps55
  go_wp2_with fail
  refine (HN.out).mono ?_
  rintro e w1 ⟨ov, rfl, hov, hk, hown⟩
  go_wp2_with fail
  go_ret
  exact ⟨_, rfl, hov, hk, hown⟩
set_option maxHeartbeats 8000000 in
set_option maxRecDepth 100000 in
theorem rbehind_any (l : List In) (a : Option Addr) (c i : Nat) (x : In) (w : World) (h : Ins w (.slice a l.length c) l) (hok : InsOk l) (hx : l[i]? = some x) (hkn : knownB x = true) (hrng : ∀ t ∈ nextC i x, 0 ≤ t ∧ t < l.length)
    {L : List Nat} {vg vc : Nat} (hv : U16s w (.slice (some ⟨vg, 0, none⟩) l.length vc) L) (hl : ∀ v ∈ L, v < 65536) :
    Calls Try.prog 36 #[.slice a l.length c, .slice (some ⟨vg, 0, none⟩) l.length vc, .int .i64 i] w fun e w' => e = .returned (.int .u16 (behN L (nextC i x))) ∧ Kept (fun _ => False) w w' := by
  have hxo := hok.at_ hx
  have hlen := hok.len
  have HA := Lib.hid (rAfter_any l a c i x w h hok hx)
  rw [nextR_eq hxo hkn] at HA
  have hml := next_len i x
  have hLL : L.length = l.length := by have := hv.len; rw [List.length_map] at this; exact this.symm
  generalize nextC i x = M at *
  have HR := Lib.hid hrng
  have HLT := Lib.hid hl
  have HLL := Lib.hid hLL
  have HV := Lib.hid hv
  clear h hok hx hxo hkn hrng hv hl hLL
  go_enter Try.func36, Try.ntmps36
  go_wp2_with fail
  refine (HA.out).mono ?_
  rintro e w1 ⟨ov, rfl, hI, hk1, hown⟩
  have HL1 : Hid (U16s w1 (.slice (some ⟨vg, 0, none⟩) l.length vc) L) := Lib.hid (Sl.kept hk1 HV.out (fun _ _ h => h))
  obtain ⟨A, mc, hva⟩ := Sl.any hI
  rw [List.length_map] at hva
  subst hva
  have HI := Lib.hid hI
  clear hI hown HA
  go_wp2_with fail
  go_loopw [8, 9] (fun ov iv wr => ∃ j : Nat, ov = .int .u16 (behN L (M.take j)) ∧ iv = .int .i64 j ∧ j ≤ M.length ∧ w1 = wr) (fun _ iv _ => M.length - (intOf iv).toNat)
  case atStart => exact ⟨0, rfl, rfl, by omega, rfl⟩
  case round =>
    obtain ⟨j, rfl, rfl, hj, rfl⟩ := hrel
    by_cases hlt : j < M.length
    case neg =>
      obtain rfl : j = M.length := by omega
      have hnd : decide ((M.length : Int) < M.length) = false := decide_eq_false (by omega)
      rw [List.take_length]
      go_wp2_with fail
      go_ret
      exact ⟨rfl, hk1⟩
    case pos =>
      obtain ⟨t, ht⟩ : ∃ t, M[j]? = some t := ⟨_, List.getElem?_eq_getElem hlt⟩
      obtain ⟨ht0, ht1⟩ := HR.out t (List.mem_of_getElem? ht)
      obtain ⟨n, rfl⟩ : ∃ n : Nat, t = n := ⟨t.toNat, by omega⟩
      have hn : n < l.length := by omega
      obtain ⟨u, hu⟩ : ∃ u, L[n]? = some u := ⟨_, List.getElem?_eq_getElem (by rw [HLL.out]; exact hn)⟩
      have hu0 := HL1.out.cell hu
      obtain ⟨mg, mc', hsl, hmc, hmg⟩ := Sl.some_ HI.out (by rw [List.length_map]; omega)
      obtain ⟨rfl, -, rfl⟩ := Value.slice.inj hsl
      have hm0 := Ints.cell HI.out ht
      have hult := HLT.out u (List.mem_of_getElem? hu)
      have hor := bits_or_u16_nat (behN_lt HLT.out (M.take j)) hult
      have HNX : Hid (behN L (M.take (j + 1)) = behN L (M.take j) ||| u) := Lib.hid (by
        rw [behN_next ht, List.getD_eq_getElem?_getD, show ((n : Int)).toNat = n from rfl, hu]
        rfl)
      clear ht hu hult hsl ht0 ht1
      go_wp2_with fail
      go_roundw
      case rel => exact ⟨j + 1, by rw [HNX.out], by go_num, by omega, by first | trivial | rfl⟩
      case measure => simp [intOf]; omega
set_option maxHeartbeats 16000000 in
set_option maxRecDepth 100000 in
theorem rLive_any (l : List In) (a : Option Addr) (c : Nat) (w : World) (h : Ins w (.slice a l.length c) l) (hok : InsOk l) :
    Calls Try.prog 13 #[.slice a l.length c] w fun e w' => ∃ ov, e = .returned (.tuple #[ov, .int .i64 (checkI l)]) ∧ (checkI l = 0 → ∃ L, LiveIs l L ∧ U16s w' ov L) ∧ (checkI l ≠ 0 → ov = .slice none 0 0) ∧ Kept (fun _ => False) w w' ∧ ∀ g, ov.ownBlock = some g → w.heap.size ≤ g := by
  have HCK := Lib.hid (fun W hI => rcheck_any l a c W hI hok)
  have HSE := Lib.hid (fun W hI => seconds_any l a c W hI hok)
  have HIN := Lib.hid (fun (W : World) (hk : Kept (fun _ => False) w W) => h.kept hk)
  obtain ⟨j0, hJ0, hJ1, hJ2, hJ3⟩ := info_parts infoU
  have hlen := hok.len
  clear h
  by_cases hz : checkI l = 0
  case neg =>
    have hzd : (checkI l != 0) = true := by simpa using hz
    clear HSE hok
    generalize checkI l = r at *
    have HNZ := Lib.hid hz
    clear hz
    go_enter Try.func13, Try.ntmps13
    go_wp2_with fail
    refine (HCK.out _ (HIN.out _ (Kept.refl _ w))).mono ?_
    rintro e w1 ⟨⟨p, rfl⟩, hk1⟩
    go_wp2_with fail
    go_ret2
    exact ⟨_, rfl, fun h => absurd h HNZ.out, fun _ => rfl, hk1, fun g hg => by simp [Value.ownBlock] at hg⟩
  case pos =>
    have HZ := Lib.hid hz
    have hl1 : 1 ≤ l.length := (slots_zero (check_parts hz).1).1
    rw [hz] at HCK
    rw [hz]
    clear hz
    go_enter Try.func13, Try.ntmps13
    go_wp2_with fail
    refine (HCK.out _ (HIN.out _ (Kept.refl _ w))).mono ?_
    rintro e w1 ⟨⟨p, rfl⟩, hk1⟩
    go_wp2_with fail
    refine (HSE.out _ (HIN.out _ hk1)).mono ?_
    rintro e w2 ⟨sv, rfl, hS, hk2, hsv⟩
    have hK2 := hk1.trans hk2 (fun _ _ h => h)
    obtain ⟨sg, sc, rfl, hsl, hsg⟩ := Sl.some_ hS (by rw [List.length_map, sec_len]; exact hl1)
    rw [List.length_map, sec_len] at *
    go_wp2_with (at_make; refine wpList_makeSl (w := w2) rfl (.tmp 26) (.tmp 26) 28 rfl (.int .u16 0) rfl Try.underlying28 hJ0 hJ1 hJ2 hJ3 (by omega) l.length rfl rfl (by omega) ?_; intro w3 hL3 hk3; generalize hvg : w2.heap.size = vg at hL3 ⊢)
    have hK3 := hK2.trans hk3 (fun _ _ h => h)
    have hnew : w.heap.size ≤ vg := by have := hK2.size; omega
    have hne : sg ≠ vg := by omega
    have hU3 : U16s w3 (.slice (some ⟨vg, 0, none⟩) l.length l.length) (List.replicate l.length 0) := by unfold U16s; rw [List.map_replicate]; exact hL3
    have hS3 : Bls w3 (.slice (some ⟨sg, 0, none⟩) l.length sc) (secL l) := Sl.kept hk3 hS (fun _ _ h => h)
    clear hL3 hS hk1 hk2 hk3 hK2 hsv hsl hsg hvg HSE HCK
    go_wp2_with fail
    go_loopg [8] (2 * (65536 * l.length) + 1) (fun k cv wr => ∃ (b : Bool) (L : List Nat), cv = .bool b ∧ LInv l L ∧ (b = false → ∀ (i : Nat) (x : In), l[i]? = some x → (secL l)[i]? = some false → L[i]? = some (newN L i x)) ∧ 2 * L.sum + k = 2 * (65536 * l.length) + (if b = true then 1 else 0) ∧ U16s wr (.slice (some ⟨vg, 0, none⟩) l.length l.length) L ∧ Bls wr (.slice (some ⟨sg, 0, none⟩) l.length sc) (secL l) ∧ Kept (fun _ => False) w wr)
    case atStart => exact ⟨true, _, rfl, LInv.start l, fun h => by (cases h), by simp, hU3, hS3, hK3⟩
    case round =>
      clear hU3 hS3 hK3
      obtain ⟨b, L, rfl, hI, hfx, hgk, hU, hS, hK⟩ := hrel
      cases b
      case false =>
        have HLI := Lib.hid (LiveIs.of hI (hfx rfl))
        clear hfx hgk hI
        go_wp2_with fail
        go_ret2
        exact ⟨_, rfl, fun _ => ⟨L, HLI.out, hU⟩, fun h => absurd rfl h, hK, fun g hg => by
          have : vg = g := Option.some.inj hg
          omega⟩
      case true =>
        clear hfx
        have HGK := Lib.hid hgk
        have hms := sum_most hI.lt
        rw [hI.len] at hms
        clear hgk
        go_wp2_with fail
        go_loopw [8, 9] (fun cv kv wr => ∃ (b : Bool) (k : Int) (M : List Nat), cv = .bool b ∧ kv = .int .i64 k ∧ -1 ≤ k ∧ k < l.length ∧ LInv l M ∧ U16s wr (.slice (some ⟨vg, 0, none⟩) l.length l.length) M ∧ Bls wr (.slice (some ⟨sg, 0, none⟩) l.length sc) (secL l) ∧ Kept (fun _ => False) w wr ∧ L.sum ≤ M.sum ∧ (b = true → L.sum < M.sum) ∧ (b = false → M = L ∧ ∀ (j : Nat) (x : In), k < j → l[j]? = some x → (secL l)[j]? = some false → L[j]? = some (newN L j x))) (fun _ kv _ => (intOf kv + 1).toNat)
        case atStart => exact ⟨false, (l.length : Int) - 1, L, rfl, by go_num, by omega, by omega, hI, hU, hS, hK, by omega, fun h => by (cases h), fun _ => ⟨rfl, fun j x h1 h2 _ => by have := (List.getElem?_eq_some_iff.1 h2).1; omega⟩⟩
        case round =>
          clear hI hU hS hK
          obtain ⟨b, k, M, rfl, rfl, hk1, hk2, hI, hU, hS, hK, hle, hb1, hb2⟩ := hrel
          by_cases hk : k < 0
          case pos =>
            have hkd : decide (0 ≤ k) = false := decide_eq_false (by omega)
            have hms2 := sum_most hI.lt
            rw [hI.len] at hms2
            have HB1 := Lib.hid hb1
            have HB2 := Lib.hid hb2
            clear hb1 hb2
            go_wp2_with fail
            go_roundg (2 * (65536 * l.length) + (if b = true then 1 else 0) - 2 * M.sum)
            case measure =>
              have := HGK.out
              simp at this
              cases b
              · simp
                omega
              · have := HB1.out rfl
                simp
                omega
            case rel => exact ⟨b, M, rfl, hI, fun hb i x hx hs => by
              obtain ⟨e, hf⟩ := HB2.out hb
              rw [e]
              exact hf i x (by omega) hx hs, by omega, hU, hS, hK⟩
          case neg =>
            obtain ⟨i, rfl⟩ : ∃ i : Nat, k = i := ⟨k.toNat, by omega⟩
            have hkd : decide (0 ≤ (i : Int)) = true := decide_eq_true (by omega)
            have hil : i < l.length := by omega
            obtain ⟨x, hx⟩ : ∃ x, l[i]? = some x := ⟨_, List.getElem?_eq_getElem hil⟩
            obtain ⟨s, hs⟩ := sec_get hil
            have hsc := Bls.cell hS hs
            have hBB := Lib.hid hb1
            have HB2 := Lib.hid hb2
            cases s
            case true =>
              have HB3 := Lib.hid (fun (hb : b = false) => (⟨(HB2.out hb).1, fun (j : Nat) (y : In) (h1 : (i : Int) - 1 < j) h2 h3 => by
                by_cases e : j = i
                · subst e
                  rw [hs] at h3
                  cases h3
                · exact (HB2.out hb).2 j y (by omega) h2 h3⟩ : M = L ∧ ∀ (j : Nat) (y : In), (i : Int) - 1 < j → l[j]? = some y → (secL l)[j]? = some false → L[j]? = some (newN L j y)))
              clear hx hs hb1 hb2
              go_wp2_with fail
              go_roundw
              case rel => exact ⟨b, (i : Int) - 1, M, rfl, by go_num, by omega, by omega, hI, hU, hS, hK, hle, hBB.out, HB3.out⟩
              case measure => (simp [intOf]; try omega)
            case false =>
              have hxo := hok.at_ hx
              have hri := right_of HZ.out hx hs
              have hkn := right_known hri
              obtain ⟨hd10, hs10⟩ := rightB_regs hri
              obtain ⟨v0, hv0⟩ : ∃ v0, M[i]? = some v0 := ⟨_, List.getElem?_eq_getElem (by rw [hI.len]; exact hil)⟩
              obtain ⟨hup1, hup2⟩ := hI.up hx hs hv0
              have hrng : ∀ t ∈ nextC i x, 0 ≤ t ∧ t < l.length := fun t ht => by
                obtain ⟨n, rfl, hn, _⟩ := next_ok HZ.out hx hs ht
                omega
              have HRD := Lib.hid (fun W => rReads_any x W hxo)
              have HWR := Lib.hid (fun W => rWrites_any x W hxo)
              have er : readsR x = readsN x := by unfold readsR; rw [if_pos hri]
              have ew : writesR x = writesN x := by unfold writesR; rw [if_pos hri]
              rw [er, hri] at HRD
              rw [ew, hri] at HWR
              have HBH := Lib.hid (fun W (hW : Ins W (.slice a l.length c) l) (hv : U16s W (.slice (some ⟨vg, 0, none⟩) l.length l.length) M) => rbehind_any l a c i x W hW hok hx hkn hrng hv hI.lt)
              have hls := bits_less_u16_nat (behN_lt hI.lt (nextC i x)) (writesN_lt x hd10)
              have hor := bits_or_u16_nat (readsN_lt x hd10 hs10) (less_lt (b := writesN x) (behN_lt hI.lt (nextC i x)))
              have hnw : readsN x ||| lessN (behN M (nextC i x)) (writesN x) = newN M i x := rfl
              rw [hnw] at hor
              have HST := Lib.hid (hI.step hx hs hri)
              have hsum := sum_set (v := newN M i x) hv0
              obtain ⟨lg, lo, hla, hlg, hcx⟩ : ∃ lg lo, a = some ⟨lg, lo, none⟩ ∧ lg < w.heap.size ∧ ∀ W, Kept (fun _ => False) w W → ∀ (k : Nat) (u : Value), (inVals x)[k]? = some u → W.cell? ⟨lg, lo + i * 5 + k, none⟩ = some u := by
                obtain ⟨a', c', e, -, hh⟩ := HIN.out w (Kept.refl _ w)
                obtain ⟨rfl, -, rfl⟩ := Value.slice.inj e
                obtain ⟨ig, ioff, e1, e2, e3⟩ := hh i x hx
                exact ⟨ig, ioff, e1, e2, fun W hk k u hu => by rw [hk.cell e2 (fun h => h)]; exact e3 k u hu⟩
              subst hla
              have HCX := Lib.hid hcx
              have HV0 := Lib.hid hv0
              have HI := Lib.hid hI
              have hset : Hid (newN M i x = v0 → M.set i (newN M i x) = M) := Lib.hid (fun e => by rw [e]; exact set_same hv0)
              have HB3 := Lib.hid (fun (hb : b = false) (ee : newN M i x = v0) => (⟨(HB2.out hb).1, fun (j : Nat) (y : In) (h1 : (i : Int) - 1 < j) h2 h3 => by
                by_cases ej : j = i
                · subst ej
                  rw [hx] at h2
                  cases h2
                  rw [← (HB2.out hb).1, hv0, ee]
                · exact (HB2.out hb).2 j y (by omega) h2 h3⟩ : M = L ∧ ∀ (j : Nat) (y : In), (i : Int) - 1 < j → l[j]? = some y → (secL l)[j]? = some false → L[j]? = some (newN L j y)))
              have hup3 : newN M i x ≠ v0 → L.sum < (M.set i (newN M i x)).sum := fun hne => by omega
              have HUP := Lib.hid hup3
              clear hup3 hx hs hb1 hb2 hv0 hup1 hup2 hrng hsum hri hkn hxo hI er ew hnw hcx
              generalize newN M i x = nw at *
              generalize readsN x = rd at *
              generalize writesN x = wd at *
              generalize behN M (nextC i x) = bh at *
              have c0 := HCX.out wr hK 0
              have c0 : wr.cell? ⟨lg, lo + i * 5, none⟩ = some (.int .u8 x.op) := HCX.out wr hK 0 _ rfl
              have c1 : wr.cell? ⟨lg, lo + i * 5 + 1, none⟩ = some (.int .u8 x.dst) := HCX.out wr hK 1 _ rfl
              have c2 : wr.cell? ⟨lg, lo + i * 5 + 2, none⟩ = some (.int .u8 x.src) := HCX.out wr hK 2 _ rfl
              have c3 : wr.cell? ⟨lg, lo + i * 5 + 3, none⟩ = some (.int .i16 x.off) := HCX.out wr hK 3 _ rfl
              have c4 : wr.cell? ⟨lg, lo + i * 5 + 4, none⟩ = some (.int .i32 x.imm) := HCX.out wr hK 4 _ rfl
              go_wp2_with fail
              refine (HRD.out _).mono ?_
              rintro e w5 ⟨rfl, hk5⟩
              have hK5 := hK.trans hk5 (fun _ _ h => h)
              clear c0 c1 c2 c3 c4
              have c0 : w5.cell? ⟨lg, lo + i * 5, none⟩ = some (.int .u8 x.op) := HCX.out _ hK5 0 _ rfl
              have c1 : w5.cell? ⟨lg, lo + i * 5 + 1, none⟩ = some (.int .u8 x.dst) := HCX.out _ hK5 1 _ rfl
              have c2 : w5.cell? ⟨lg, lo + i * 5 + 2, none⟩ = some (.int .u8 x.src) := HCX.out _ hK5 2 _ rfl
              have c3 : w5.cell? ⟨lg, lo + i * 5 + 3, none⟩ = some (.int .i16 x.off) := HCX.out _ hK5 3 _ rfl
              have c4 : w5.cell? ⟨lg, lo + i * 5 + 4, none⟩ = some (.int .i32 x.imm) := HCX.out _ hK5 4 _ rfl
              go_wp2_with fail
              refine (HWR.out _).mono ?_
              rintro e w6 ⟨rfl, hk6⟩
              have hK6 := hK5.trans hk6 (fun _ _ h => h)
              have hU6 : U16s w6 (.slice (some ⟨vg, 0, none⟩) l.length l.length) M := Sl.kept hk6 (Sl.kept hk5 hU (fun _ _ h => h)) (fun _ _ h => h)
              have hS6 : Bls w6 (.slice (some ⟨sg, 0, none⟩) l.length sc) (secL l) := Sl.kept hk6 (Sl.kept hk5 hS (fun _ _ h => h)) (fun _ _ h => h)
              clear c0 c1 c2 c3 c4
              go_wp2_with fail
              refine (HBH.out _ (HIN.out _ hK6) hU6).mono ?_
              rintro e w7 ⟨rfl, hk7⟩
              have hK7 := hK6.trans hk7 (fun _ _ h => h)
              have hU7 : U16s w7 (.slice (some ⟨vg, 0, none⟩) l.length l.length) M := Sl.kept hk7 hU6 (fun _ _ h => h)
              have hS7 : Bls w7 (.slice (some ⟨sg, 0, none⟩) l.length sc) (secL l) := Sl.kept hk7 hS6 (fun _ _ h => h)
              have hvc := hU7.cell HV0.out
              have hfz := Sl.frozen hU7 i
              cases d : ((nw : Int) != (v0 : Int))
              case false =>
                have hnv : nw = v0 := by simp at d; omega
                have HE := Lib.hid hnv
                clear hnv
                go_wp2_with fail
                go_roundw
                case rel => exact ⟨b, (i : Int) - 1, M, rfl, by go_num, by omega, by omega, HI.out, hU7, hS7, hK7, hle, hBB.out, fun hb => HB3.out hb HE.out⟩
                case measure => (simp [intOf]; try omega)
              case true =>
                have hne2 : nw ≠ v0 := fun e => by
                  rw [e] at d
                  simp at d
                have HLT := Lib.hid (HUP.out hne2)
                have hU8 := hU7.set (show i < M.length by rw [HI.out.len]; exact hil) nw
                have hS8 := hS7.far (p := ⟨vg, i, none⟩) (by simpa [Value.ownBlock] using hne) (.int .u16 nw)
                have hK8 := hK7.setCell (p := ⟨vg, i, none⟩) (fun e => by have e : vg < w.heap.size := e; omega) (.int .u16 nw)
                clear hne2
                go_wp2_with fail
                go_roundw
                case rel => exact ⟨true, (i : Int) - 1, _, rfl, by go_num, by omega, by omega, HST.out, hU8, hS8, hK8, by have := HLT.out; omega, fun _ => HLT.out, fun h => by cases h⟩
                case measure => (simp [intOf]; try omega)

end Go.Proofs.Ytopdoanfpjaehaa
set_option linter.unusedSimpArgs false
set_option linter.unusedVariables false
namespace Go.Proofs.Ytopdoanfpjaehaa
open Go.RowKit

/-! ### the document's Dead -/
theorem naB1 : ∀ w, (isAgg 4).run Try.prog w = .ok false w := fun w => by kernel_rfl
theorem naU8 : ∀ w, (isAgg 5).run Try.prog w = .ok false w := fun w => by kernel_rfl
theorem cls0_eq {x : In} (h : InOk x) (hk : knownB x = true) : (clsI x == 0) = (x.op == 24) := by
  have hop := h.op
  by_cases h1 : x.op = 24
  · unfold clsI
    rw [h1]
    rfl
  · have e : (x.op == 24) = false := by simpa using h1
    rw [e]
    cases hc : (clsI x == 0)
    · rfl
    · have hc : clsI x = 0 := by simpa using hc
      unfold knownB at hk
      rw [hc] at hk
      simp [e] at hk
set_option maxHeartbeats 16000000 in
set_option maxRecDepth 100000 in
theorem rDead_any (l : List In) (a : Option Addr) (c : Nat) (w : World) (h : Ins w (.slice a l.length c) l) (hok : InsOk l) :
    Calls Try.prog 14 #[.slice a l.length c] w fun e w' => ∃ ov, e = .returned (.tuple #[ov, .int .i64 (checkI l)]) ∧ (checkI l = 0 → ∃ L, LiveIs l L ∧ Ints w' ov (deadU l L l.length)) ∧ (checkI l ≠ 0 → ov = .slice none 0 0) ∧ Kept (fun _ => False) w w' ∧ ∀ g, ov.ownBlock = some g → w.heap.size ≤ g := by
  have HLV := Lib.hid (fun W hI => rLive_any l a c W hI hok)
  have HOF := Lib.hid (fun hz W hI => rof_any l a c W hI hok hz)
  have HIN := Lib.hid (fun (W : World) (hk : Kept (fun _ => False) w W) => h.kept hk)
  have hlen := hok.len
  clear h
  by_cases hz : checkI l = 0
  case neg =>
    have hzd : (checkI l != 0) = true := by simpa using hz
    have HLV2 : Hid (∀ W, Ins W (.slice a l.length c) l → Calls Try.prog 13 #[.slice a l.length c] W fun e w' => ∃ ov, e = .returned (.tuple #[ov, .int .i64 (checkI l)]) ∧ Kept (fun _ => False) W w') := Lib.hid (fun W hI => (HLV.out W hI).mono (fun e w' h => by
      obtain ⟨ov, h1, h2, h3, h4, h5⟩ := h
      exact ⟨ov, h1, h4⟩))
    clear HLV HOF hok
    generalize checkI l = r at *
    have HNZ := Lib.hid hz
    clear hz
    go_enter Try.func14, Try.ntmps14
    go_wp2_with fail
    refine (HLV2.out _ (HIN.out _ (Kept.refl _ w))).mono ?_
    rintro e w1 ⟨ov, rfl, hk1⟩
    go_wp2_with fail
    go_ret2
    exact ⟨_, rfl, fun h => absurd h HNZ.out, fun _ => rfl, hk1, fun g hg => by simp [Value.ownBlock] at hg⟩
  case pos =>
    have HOF2 := Lib.hid (HOF.out hz)
    have HZ := Lib.hid hz
    have hl1 : 1 ≤ l.length := (slots_zero (check_parts hz).1).1
    rw [hz] at HLV
    rw [hz]
    clear hz HOF
    go_enter Try.func14, Try.ntmps14
    go_wp2_with fail
    refine (HLV.out _ (HIN.out _ (Kept.refl _ w))).mono ?_
    rintro e w1 ⟨lv, rfl, hLu, -, hk1, hlo⟩
    obtain ⟨L, hL, hU⟩ := hLu (by first | trivial | rfl)
    obtain ⟨vg, vc, rfl, hvl, hvg⟩ := Sl.some_ hU (by rw [List.length_map, hL.len]; exact hl1)
    rw [List.length_map, hL.len] at *
    go_wp2_with fail
    refine (HOF2.out _ (HIN.out _ hk1)).mono ?_
    rintro e w2 ⟨isv, rfl, hB, hk2, hiso⟩
    obtain ⟨ig, ic, rfl, hil, hig⟩ := Sl.some_ hB (by rw [List.length_map, rchL_len]; exact hl1)
    rw [List.length_map, rchL_len] at *
    have hK2 := hk1.trans hk2 (fun _ _ h => h)
    have HIS := Lib.hid (fun W (hk : Kept (fun _ => False) w2 W) => (Sl.kept hk hB (fun _ _ h => h) : Bls W (.slice (some ⟨ig, 0, none⟩) l.length ic) (rchL l)))
    have HUS := Lib.hid (fun W (hk : Kept (fun _ => False) w2 W) => (Sl.kept (hk2.trans hk (fun _ _ h => h)) hU (fun _ _ h => h) : U16s W (.slice (some ⟨vg, 0, none⟩) l.length vc) L))
    have HL := Lib.hid hL
    have HK2 := Lib.hid hK2
    clear hB hiso hil hig hU hlo hvl hvg hL HOF2 HLV hk1 hk2 hK2 hLu
    go_wp2_with fail
    go_loopw [7, 8] (fun ov iv wr => ∃ j : Nat, iv = .int .i64 j ∧ j ≤ l.length ∧ Ints wr ov (deadU l L j) ∧ (∀ g, ov.ownBlock = some g → w2.heap.size ≤ g) ∧ Kept (fun _ => False) w2 wr) (fun _ iv _ => l.length - (intOf iv).toNat)
    case atStart => exact ⟨0, rfl, by omega, Sl.nil _ _ _, fun g hg => by simp [Value.ownBlock] at hg, Kept.refl _ _⟩
    case round =>
      obtain ⟨j, rfl, hj, hO, hown, hK⟩ := hrel
      by_cases hlt : j < l.length
      case neg =>
        obtain rfl : j = l.length := by omega
        have hnd : decide ((l.length : Int) < l.length) = false := decide_eq_false (by omega)
        go_wp2_with fail
        go_ret2
        exact ⟨_, rfl, fun _ => ⟨L, HL.out, hO⟩, fun h => absurd rfl h, HK2.out.trans hK (fun _ _ h => h), fun g hg => by have := hown g hg; have := HK2.out.size; omega⟩
      case pos =>
        obtain ⟨x, hx⟩ : ∃ x, l[j]? = some x := ⟨_, List.getElem?_eq_getElem hlt⟩
        have hxo := hok.at_ hx
        have HCL := Lib.hid (fun W => rclass_any x W hxo)
        have hInw := HIN.out wr (HK2.out.trans hK (fun _ _ h => h))
        obtain ⟨lg, lo, hla, hlg, c0, c1, c2, c3, c4⟩ := hInw.at_ hx
        subst hla
        have hB := HIS.out _ hK
        obtain ⟨rb, hrb⟩ : ∃ rb, (rchL l)[j]? = some rb := ⟨_, List.getElem?_eq_getElem (by rw [rchL_len]; exact hlt)⟩
        have hbc := Bls.cell hB hrb
        have hilt := Sl.lt hB ig rfl
        have HOL := Lib.hid (deadU_len l L j)
        have hKd : Kept (fun _ => False) wr (wr.alloc (.cells (inVals x) 26)).drew := ((Kept.refl _ wr).alloc _).drew
        have HBC : Hid (∀ w', Kept (fun _ => False) (wr.alloc (.cells (inVals x) 26)).drew w' → w'.cell? ⟨ig, j, none⟩ = some (.bool rb)) := Lib.hid (fun w' hk => by rw [(hKd.trans hk (fun _ _ h => h)).cell hilt (fun h => h)]; exact hbc)
        have HXC : Hid (∀ w', Kept (fun _ => False) (wr.alloc (.cells (inVals x) 26)).drew w' → w'.cell? ⟨lg, lo + j * 5 + 1, none⟩ = some (.int .u8 x.dst)) := Lib.hid (fun w' hk => by rw [(hKd.trans hk (fun _ _ h => h)).cell hlg (fun h => h)]; exact c1)
        have hC0 := Kept.refl (fun _ => False) (wr.alloc (.cells (inVals x) 26)).drew
        cases rb
        case false =>
          have hd : deadC l L j = false := by unfold deadC; rw [hx, hrb]
          have HD := Lib.hid (deadU_same hd)
          clear hd hx hrb
          go_wp2_with (go_at_call 26; refine (HCL.out _).mono ?_; rintro e w4 ⟨rfl, rfl⟩)
          refine wp_region_mix [.w, .w, .w, .l, .w, .w, .w, .w, .w, .w, .w, .w, .w, .w, .w, .w, .w, .w, .w, .w, .k, .w, .w, .w, .w, .l, .k, .w, .w, .w] (by kernel_rfl) (by kernel_rfl) (fun w' => Kept (fun _ => False) (wr.alloc (.cells (inVals x) 26)).drew w') ?_
          repeat (refine mix_w1 ?_; go_big_quiet_step (fail); refine wpQuiet_nil ?_)
          refine mix_load1 hC0 rfl 4 (.tmp 33) rfl naB1 ⟨ig, j, none⟩ (.bool false) rfl HBC.out ?_
          simp only [Act.put, List.setIfInBounds_toArray, List.set_cons_succ, List.set_cons_zero]
          repeat (first
            | (refine mix_w1 ?_; go_big_quiet_step (fail); refine wpQuiet_nil ?_)
            | (refine mix_l1 hC0 ?_; go_big_quiet_step (fail); refine wpQuiet_nil ?_)
            | (refine mix_k hC0 fun Q' hQ' => ?_; go_wp2_with fail; refine hQ' _ _ hC0 ?_; clear hQ' Q'))
          refine mix_done ?_
          go_wp2_with fail
          go_roundw
          case rel => exact ⟨j + 1, by go_num, by omega, by rw [HD.out]; exact (hO.alloc _).drew, hown, (hK.alloc _).drew⟩
          case measure => (simp [intOf]; try omega)
        case true =>
          have hs := rch_sec HZ.out hrb
          have hri := right_of HZ.out hx hs
          obtain ⟨hd10, -⟩ := rightB_regs hri
          have hkn := right_known hri
          have hrng : ∀ t ∈ nextC j x, 0 ≤ t ∧ t < l.length := fun t ht => by
            obtain ⟨n, rfl, hn, _⟩ := next_ok HZ.out hx hs ht
            omega
          have hdc : deadC l L j = ((((clsI x == 4) || (clsI x == 7)) || (clsI x == 0)) && (((behN L (nextC j x) &&& bitN x.dst : Nat) : Int) == 0)) := by
            unfold deadC
            rw [hx, hrb, cls0_eq hxo hkn]
          have HBH := Lib.hid (fun W (hW : Ins W (.slice (some ⟨lg, lo, none⟩) l.length c) l) (hv : U16s W (.slice (some ⟨vg, 0, none⟩) l.length vc) L) => rbehind_any l _ c j x W hW hok hx hkn hrng hv HL.out.lt)
          have HBT := Lib.hid (fun W => rbit_any x.dst W ⟨hxo.dst.1, hd10⟩)
          have hand := bits_and_u16_nat (behN_lt HL.out.lt (nextC j x)) (show bitN x.dst < 65536 by have := bitN_lt hd10; omega)
          have HMO := Lib.hid (@deadU_more l L j)
          have HSA := Lib.hid (@deadU_same l L j)
          have HDC := Lib.hid hdc
          generalize behN L (nextC j x) = bh at *
          generalize bitN x.dst = bd at *
          generalize clsI x = cl at *
          clear hdc hx hrb hs hri hkn hrng
          have hK0 : Kept (fun _ => False) w2 (wr.alloc (.cells (inVals x) 26)).drew := hK.trans hKd (fun _ _ h => h)
          rcases (show (cl == 4) = true ∨ (cl == 4) = false ∧ (cl == 7) = true ∨ (cl == 4) = false ∧ (cl == 7) = false ∧ (cl == 0) = true ∨ (cl == 4) = false ∧ (cl == 7) = false ∧ (cl == 0) = false by
            cases (cl == 4) <;> cases (cl == 7) <;> cases (cl == 0) <;> simp) with q4 | ⟨q4, q7⟩ | ⟨q4, q7, q24⟩ | ⟨q4, q7, q24⟩
          case inr.inr.inr =>
            have hd := HDC.out
            rw [q4, q7, q24] at hd
            have HD := Lib.hid (HSA.out hd)
            clear hd
            go_wp2_with (go_at_call 26; refine (HCL.out _).mono ?_; rintro e w4 ⟨rfl, rfl⟩)
            refine wp_region_mix [.w, .w, .w, .l, .w, .w, .w, .w, .w, .w, .w, .w, .w, .w, .w, .w, .w, .w, .w, .w, .k, .w, .w, .w, .w, .l, .k, .w, .w, .w] (by kernel_rfl) (by kernel_rfl) (fun w' => Kept (fun _ => False) (wr.alloc (.cells (inVals x) 26)).drew w') ?_
            repeat (refine mix_w1 ?_; go_big_quiet_step (fail); refine wpQuiet_nil ?_)
            refine mix_load1 hC0 rfl 4 (.tmp 33) rfl naB1 ⟨ig, j, none⟩ (.bool true) rfl HBC.out ?_
            simp only [Act.put, List.setIfInBounds_toArray, List.set_cons_succ, List.set_cons_zero]
            repeat (first
              | (refine mix_w1 ?_; go_big_quiet_step (fail); refine wpQuiet_nil ?_)
              | (refine mix_l1 hC0 ?_; go_big_quiet_step (fail); refine wpQuiet_nil ?_)
              | (refine mix_k hC0 fun Q' hQ' => ?_; go_wp2_with fail; refine hQ' _ _ hC0 ?_; clear hQ' Q'))
            refine mix_done ?_
            go_wp2_with fail
            go_roundw
            case rel => exact ⟨j + 1, by go_num, by omega, by rw [HD.out]; exact (hO.alloc _).drew, hown, (hK.alloc _).drew⟩
            case measure => (simp [intOf]; try omega)
          all_goals
            cases hzz : ((((bh &&& bd : Nat) : Int)) == 0)
            case false =>
              have hd := HDC.out
              rw [hzz, Bool.and_false] at hd
              have HD := Lib.hid (HSA.out hd)
              clear hd
              go_wp2_with (go_at_call 26; refine (HCL.out _).mono ?_; rintro e w4 ⟨rfl, rfl⟩)
              refine wp_region_mix [.w, .w, .w, .l, .w, .w, .w, .w, .w, .w, .w, .w, .w, .w, .w, .w, .w, .w, .w, .w, .k, .w, .w, .w, .w, .l, .k, .w, .w, .w] (by kernel_rfl) (by kernel_rfl) (fun w' => Kept (fun _ => False) (wr.alloc (.cells (inVals x) 26)).drew w') ?_
              repeat (refine mix_w1 ?_; go_big_quiet_step (fail); refine wpQuiet_nil ?_)
              refine mix_load1 hC0 rfl 4 (.tmp 33) rfl naB1 ⟨ig, j, none⟩ (.bool true) rfl HBC.out ?_
              simp only [Act.put, List.setIfInBounds_toArray, List.set_cons_succ, List.set_cons_zero]
              repeat (refine mix_w1 ?_; go_big_quiet_step (fail); refine wpQuiet_nil ?_)
              refine mix_k hC0 fun Q' hQ' => ?_
              go_wp2_with fail
              refine (HBH.out _ (HIN.out _ (HK2.out.trans hK0 (fun _ _ h => h))) (HUS.out _ hK0)).mono ?_
              rintro e w5 ⟨rfl, hk5⟩
              have hC5 := hk5
              have hK5 := hK0.trans hk5 (fun _ _ h => h)
              have hO5 := Sl.kept hk5 (Sl.drew (Sl.alloc hO (.cells (inVals x) 26))) (fun _ _ h => h)
              go_wp2_with fail
              refine hQ' _ _ hC5 ?_
              clear hQ' Q'
              repeat (refine mix_w1 ?_; go_big_quiet_step (fail); refine wpQuiet_nil ?_)
              refine mix_loadG hC5 (by rfl) 5 (.tmp 55) rfl naU8 ⟨lg, lo + j * 5 + 1, none⟩ (.int .u8 x.dst) rfl HXC.out ?_
              simp only [Act.put, List.setIfInBounds_toArray, List.set_cons_succ, List.set_cons_zero]
              refine mix_k hC5 fun Q' hQ' => ?_
              go_wp2_with fail
              refine (HBT.out _).mono ?_
              rintro e w4 ⟨rfl, rfl⟩
              go_wp2_with fail
              refine hQ' _ _ hC5 ?_
              clear hQ' Q'
              repeat (refine mix_w1 ?_; go_big_quiet_step (fail); refine wpQuiet_nil ?_)
              refine mix_done ?_
              go_wp2_with fail
              go_roundw
              case rel => exact ⟨j + 1, by go_num, by omega, by rw [HD.out]; exact hO5, hown, hK5⟩
              case measure => (simp [intOf]; try omega)
            case true =>
              have hd := HDC.out
              rw [hzz, Bool.and_true] at hd
              have hd2 : deadC l L j = true := by rw [hd]; first | (rw [q4]; rfl) | (rw [q4, q7]; rfl) | (rw [q4, q7, q24]; rfl)
              have HD := Lib.hid (HMO.out hd2)
              clear hd hd2
              go_wp2_with (go_at_call 26; refine (HCL.out _).mono ?_; rintro e w4 ⟨rfl, rfl⟩)
              refine wp_region_mix [.w, .w, .w, .l, .w, .w, .w, .w, .w, .w, .w, .w, .w, .w, .w, .w, .w, .w, .w, .w, .k, .w, .w, .w, .w, .l, .k, .w, .w, .w] (by kernel_rfl) (by kernel_rfl) (fun w' => Kept (fun _ => False) (wr.alloc (.cells (inVals x) 26)).drew w') ?_
              repeat (refine mix_w1 ?_; go_big_quiet_step (fail); refine wpQuiet_nil ?_)
              refine mix_load1 hC0 rfl 4 (.tmp 33) rfl naB1 ⟨ig, j, none⟩ (.bool true) rfl HBC.out ?_
              simp only [Act.put, List.setIfInBounds_toArray, List.set_cons_succ, List.set_cons_zero]
              repeat (refine mix_w1 ?_; go_big_quiet_step (fail); refine wpQuiet_nil ?_)
              refine mix_k hC0 fun Q' hQ' => ?_
              go_wp2_with fail
              refine (HBH.out _ (HIN.out _ (HK2.out.trans hK0 (fun _ _ h => h))) (HUS.out _ hK0)).mono ?_
              rintro e w5 ⟨rfl, hk5⟩
              have hC5 := hk5
              have hK5 := hK0.trans hk5 (fun _ _ h => h)
              have hO5 := Sl.kept hk5 (Sl.drew (Sl.alloc hO (.cells (inVals x) 26))) (fun _ _ h => h)
              go_wp2_with fail
              refine hQ' _ _ hC5 ?_
              clear hQ' Q'
              repeat (refine mix_w1 ?_; go_big_quiet_step (fail); refine wpQuiet_nil ?_)
              refine mix_loadG hC5 (by rfl) 5 (.tmp 55) rfl naU8 ⟨lg, lo + j * 5 + 1, none⟩ (.int .u8 x.dst) rfl HXC.out ?_
              simp only [Act.put, List.setIfInBounds_toArray, List.set_cons_succ, List.set_cons_zero]
              refine mix_k hC5 fun Q' hQ' => ?_
              go_wp2_with fail
              refine (HBT.out _).mono ?_
              rintro e w4 ⟨rfl, rfl⟩
              go_wp2_with fail
              refine hQ' _ _ hC5 ?_
              clear hQ' Q'
              repeat (refine mix_w1 ?_; go_big_quiet_step (fail); refine wpQuiet_nil ?_)
              refine mix_done ?_
              go_wp2_with (at_builtin; refine wpList_pushI (w := w5) rfl (.tmp 61) (.tmp 63) rfl _ (deadU l L j) j rfl rfl hO5 (by have := HOL.out; omega) ?_; intro v6 w6 hL6 hk6 hw6)
              go_roundw
              case rel => exact ⟨j + 1, by go_num, by omega, by rw [HD.out]; exact hL6, fun g hg => by
                have q1 := hK5.size
                rcases hw6 g hg with h | h
                · exact hown g h
                · omega, hK5.trans hk6 (fun k hk e => by have := hown k e; omega)⟩
              case measure => (simp [intOf]; try omega)

end Go.Proofs.Ytopdoanfpjaehaa
