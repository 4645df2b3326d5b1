import Derived.Test.YtmgdjiplpfeoiaaDoorPa
import Derived.Test.YtmgdjiplpfeoiaaDoorTt
set_option linter.unusedSimpArgs false
set_option linter.unusedVariables false
namespace Go.Proofs.YtmgdjiplpfeoiaaDoor
open Go.RowKit

theorem spot_none {w : World} {a : Addr} {v : Value} (h : w.cell? a = some v) : a.spot = none := by
  unfold World.cell? at h
  split at h
  · split at h
    · cases h
    · rename_i hs; simpa using hs
  · cases h
/-- a slice of bytes that came in -/
def InB (w : World) (a : Option Addr) (l : List UInt8) : Prop := ∀ (i : Nat) (b : UInt8), l[i]? = some b → ∃ g off, a = some ⟨g, off, none⟩ ∧ g < w.heap.size ∧ w.cell? ⟨g, off + i, none⟩ = some (.int .u8 (b.toNat : Int))
theorem InB.kept {w w' : World} {a : Option Addr} {l : List UInt8} (h : InB w a l) (hk : Kept (fun _ => False) w w') : InB w' a l := fun i b hb => by
  obtain ⟨g, off, ha, hg, hc⟩ := h i b hb
  exact ⟨g, off, ha, Nat.lt_of_lt_of_le hg hk.size, by rw [hk.cell (p := ⟨g, off + i, none⟩) hg (fun h => h)]; exact hc⟩

def rowT (t : Ty) : List Value := (tyVals t (.slice none 0 0)).toList
theorem tys_of_sg {w : World} {l : List Ty} {v : Value} (h : Sg w 38 7 v (l.map rowT)) (hp : 0 < l.length) (hm : ∀ t ∈ l, t.mem = []) : ∃ g c, v = .slice (some ⟨g, 0, none⟩) l.length c ∧ Tys w (.slice (some ⟨g, 0, none⟩) l.length c) l := by
  obtain ⟨g, c, rfl, hc, hg⟩ := h.some_ (by simpa using hp)
  simp only [List.length_map] at hc h ⊢
  refine ⟨g, c, rfl, _, _, rfl, hc, fun i t ht => ⟨g, 0, .slice none 0 0, rfl, hg, by rw [hm t (List.mem_of_getElem? ht)]; exact Mbs.nil _, fun k u hu => ?_⟩⟩
  have hk : k < 7 := (Array.getElem?_eq_some_iff.1 hu).1
  have := h.cell (i := i) (c := rowT t) (by simp [ht]) hk
  rw [Nat.zero_add, this]
  rw [← Array.getElem?_toList] at hu
  exact hu

theorem szS_range {s : Int} {cs : List UInt8} (hs : 0 ≤ s ∧ s ≤ 8) : ∀ i, 0 ≤ szS s cs i ∧ szS s cs i ≤ 65537
  | 0 => by simp only [szS]; omega
  | i + 1 => by
    have ih := szS_range (cs := cs) hs i
    have := Int.mul_nonneg ih.1 (Int.natCast_nonneg (cs.getD i 0).toNat)
    simp only [szS]
    omega
theorem rem4 (u : UInt8) (W : World) : (binOp .rem 5 (.int .u8 (u.toNat : Int)) (.int .u8 4)).run Tryd.prog W = .ok (.int .u8 ((u.toNat : Int) % 4)) W := by
  have hu := u.toNat_lt
  have h1 : (u.toNat : Int).tmod 4 = (u.toNat : Int) % 4 := Int.tmod_eq_emod_of_nonneg (by omega)
  have h2 : ((u.toNat : Int) % 4) < 256 := by omega
  have h3 : 0 ≤ ((u.toNat : Int) % 4) := by omega
  simp [binOp, Op.intDiv, h1, go_sem]
theorem ovS_next {s : Int} {cs : List UInt8} (n : Nat) : ovS s cs (n + 1) = if ovS s cs n < 0 then (if ovP s cs n = true then (n : Int) + 1 else -1) else ovS s cs n := by
  cases h : firstF (ovP s cs) n with
  | none =>
    have h0 : ovS s cs n = -1 := by unfold ovS; rw [h]
    rw [h0, if_pos (by decide)]
    unfold ovS
    rw [firstF_next h]
    cases ovP s cs n <;> simp
  | some i =>
    have h0 : ovS s cs n = (i : Int) + 1 := by unfold ovS; rw [h]
    have : firstF (ovP s cs) (n + 1) = some i := by
      unfold firstF at *
      rw [List.range_succ, List.find?_append, h]
      rfl
    rw [h0, if_neg (by omega)]
    unfold ovS
    rw [this]
theorem raw_arr {s : Int} {cs : List UInt8} (hn : cs.length ≤ 20) : Raw (arrL s cs) := by
  have hall : ∀ t ∈ arrL s cs, t.name.length ≤ 10 ∧ t.mem = [] := fun t ht => by
    obtain ⟨i, hi, e⟩ := List.mem_iff_getElem.1 ht
    rcases arrL_at (List.getElem?_eq_some_iff.2 ⟨hi, e⟩) with ⟨_, rfl⟩ | ⟨k, c, _, _, rfl⟩
    · exact ⟨by simp [unitT], rfl⟩
    · exact ⟨by simp [arrT], rfl⟩
  refine ⟨by rw [arrL_len]; unfold maxLen; omega, fun t ht => by have := (hall t ht).1; unfold maxLen; omega, fun t ht m hm => ?_, fun t ht m hm => ?_⟩
  · rw [(hall t ht).2] at hm; cases hm
  · rw [(hall t ht).2] at hm; cases hm
theorem arr_mem {s : Int} {cs : List UInt8} : ∀ t ∈ arrL s cs, t.mem = [] := fun t ht => by
  obtain ⟨i, hi, e⟩ := List.mem_iff_getElem.1 ht
  rcases arrL_at (List.getElem?_eq_some_iff.2 ⟨hi, e⟩) with ⟨_, rfl⟩ | ⟨k, c, _, _, rfl⟩ <;> rfl
theorem arr_next {s : Int} {cs : List UInt8} {i : Nat} {c : UInt8} (h : cs[i]? = some c) : arrL s (cs.take (i + 1)) = arrL s (cs.take i) ++ [arrT i c] := by
  have hi := (List.getElem?_eq_some_iff.1 h).1
  unfold arrL
  rw [List.take_add_one, h, Option.toList_some, List.mapIdx_append]
  simp [Nat.min_eq_left (Nat.le_of_lt hi)]

set_option maxHeartbeats 8000000 in
set_option maxRecDepth 100000 in
theorem walk_arrays (ca : Option Addr) (cc : Nat) (cs : List UInt8) (u : UInt8) (w : World) (hin : InB w ca cs) (hm : cs.length ≤ maxLen) :
    Calls Tryd.prog 5 #[.slice ca cs.length cc, .int .u8 (u.toNat : Int)] w fun e w' => e = .returned (.bool true) ∧ Kept (fun _ => False) w w' := by
  unfold maxLen at hm
  obtain ⟨i0, hI0, hI1, hI2, hI3⟩ := info_parts infoT
  by_cases h20 : 20 < cs.length
  · go_enter Tryd.func5, Tryd.ntmps5
    go_wp2_with fail
    refine (known_any w).mono ?_
    rintro e w1 ⟨rfl, hk1⟩
    go_wp2_with fail
    go_ret
    exact ⟨rfl, hk1⟩
  have hu := u.toNat_lt
  obtain ⟨s, hs, hsh⟩ : ∃ s : Int, (s = 1 ∨ s = 2 ∨ s = 4 ∨ s = 8) ∧ ((u.toNat : Int) % 4 = 0 ∧ s = 1 ∨ (u.toNat : Int) % 4 = 1 ∧ s = 2 ∨ (u.toNat : Int) % 4 = 2 ∧ s = 4 ∨ (u.toNat : Int) % 4 = 3 ∧ s = 8) := by
    rcases (show (u.toNat : Int) % 4 = 0 ∨ (u.toNat : Int) % 4 = 1 ∨ (u.toNat : Int) % 4 = 2 ∨ (u.toNat : Int) % 4 = 3 by omega) with h | h | h | h
    · exact ⟨1, by omega, by omega⟩
    · exact ⟨2, by omega, by omega⟩
    · exact ⟨4, by omega, by omega⟩
    · exact ⟨8, by omega, by omega⟩
  go_enter Tryd.func5, Tryd.ntmps5
  go_wp2_with fail
  refine (known_any w).mono ?_
  rintro e w1 ⟨rfl, hk1⟩
  rcases hsh with ⟨hmod, rfl⟩ | ⟨hmod, rfl⟩ | ⟨hmod, rfl⟩ | ⟨hmod, rfl⟩
  · skip
    have hpow : wrap64 ((2 : Int) ^ (u.toNat % 4)) = 1 := by
      have hN : u.toNat % 4 = 0 := by omega
      rw [hN]
      first | decide +kernel | rfl | (simp [wrap64])
    clear hmod hu
    go_wp2_with fail
    rw [hpow]
    clear hpow
    have hsl := (slNew w1 38 (rowT (unitT 1))).sg
    have hsz0 : szS 1 cs 0 = 1 := rfl
    have hov0 : ovS 1 cs (0 + 1) = -1 := by
      have h := ovS_next (s := 1) (cs := cs) 0
      have h2 : ovS 1 cs 0 = -1 := rfl
      have h3 : ovP 1 cs 0 = false := by unfold ovP szS; decide
      rw [h2, h3] at h
      exact h
    have harr0 : (arrL 1 (cs.take 0)).map rowT = [rowT (unitT 1)] := rfl
    have HSZ := Lib.hid hsz0
    have HOV := Lib.hid hov0
    clear hsz0 hov0
    go_loopw [8, 6, 5, 7] (fun iv lv sv ov wr => ∃ i : Nat, iv = .int .i64 i ∧ sv = .int .i64 (szS 1 cs i) ∧ ov = .int .i64 (ovS 1 cs (i + 1)) ∧ i ≤ cs.length ∧ Sg wr 38 7 lv ((arrL 1 (cs.take i)).map rowT) ∧ (∀ g, lv.ownBlock = some g → w.heap.size ≤ g) ∧ Kept (fun _ => False) w wr) (fun iv _ _ _ _ => cs.length - (intOf iv).toNat)
    case atStart => exact ⟨0, rfl, by rw [HSZ.out], by rw [HOV.out], Nat.zero_le _, by rw [harr0]; exact hsl, by intro g hg; simp only [Value.ownBlock, Option.some.injEq] at hg; have := hk1.size; omega, hk1.alloc _⟩
    case round =>
      clear hk1 hsl harr0 HSZ HOV
      obtain ⟨i, rfl, rfl, rfl, hi, hS, hown, hK⟩ := hrel
      have hlen : ((arrL 1 (cs.take i)).map rowT).length = i + 1 := by rw [List.length_map, arrL_len, List.length_take]; omega
      obtain ⟨lA, lC, hlv⟩ := hS.any
      rw [hlen] at hlv
      subst hlv
      have hrg := szS_range (cs := cs) (s := 1) (by omega) i
      by_cases hlt : i < cs.length
      case neg =>
        obtain rfl : i = cs.length := by omega
        rw [List.take_length] at hS
        obtain ⟨g, c9, hv9, hT⟩ := tys_of_sg hS (by rw [arrL_len]; omega) arr_mem
        rw [arrL_len] at hv9 hT
        obtain ⟨rfl, -, rfl⟩ := Value.slice.inj hv9
        clear hv9
        have hraw := raw_arr (s := 1) (cs := cs) (by omega)
        have hchk := arr_check (s := 1) (cs := cs) (by omega) (by omega)
        have hCA := Lib.hid (fun W hW => check_any (arrL 1 cs) (some ⟨g, 0, none⟩) lC W hW hraw)
        rw [arrL_len] at hCA
        by_cases ho : ovS 1 cs (cs.length + 1) < 0
        · have hsr := arr_sizeR (s := 1) (cs := cs) (by omega) (by omega) ho
          rw [if_pos ho] at hchk
          have hSA := Lib.hid (fun W hW => sizeR_any (arrL 1 cs) (some ⟨g, 0, none⟩) lC ((cs.length : Int) + 1) W hW hraw)
          rw [arrL_len, hsr] at hSA
          rw [hchk] at hCA
          have f0 : decide (0 ≤ ovS 1 cs (cs.length + 1)) = false := decide_eq_false (by omega)
          clear hsr hchk
          generalize ovS 1 cs (cs.length + 1) = ovv at *
          generalize szS 1 cs cs.length = szz at *
          go_wp2_with fail
          refine (hCA.out _ hT).mono ?_
          rintro e w2 ⟨rfl, hk2⟩
          go_wp2_with fail
          refine (hSA.out _ (hT.kept hk2)).mono ?_
          rintro e w3 ⟨rfl, hk3⟩
          go_wp2_with fail
          go_ret
          exact ⟨rfl, (hK.trans hk2 (fun _ _ h => h)).trans hk3 (fun _ _ h => h)⟩
        · rw [if_neg ho] at hchk
          rw [hchk] at hCA
          have f0 : decide (0 ≤ ovS 1 cs (cs.length + 1)) = true := decide_eq_true (by omega)
          clear hchk
          generalize ovS 1 cs (cs.length + 1) = ovv at *
          generalize szS 1 cs cs.length = szz at *
          go_wp2_with fail
          refine (hCA.out _ hT).mono ?_
          rintro e w2 ⟨rfl, hk2⟩
          go_wp2_with fail
          go_ret
          exact ⟨rfl, hK.trans hk2 (fun _ _ h => h)⟩
      case pos =>
        obtain ⟨c, hc⟩ : ∃ c, cs[i]? = some c := ⟨_, List.getElem?_eq_getElem hlt⟩
        obtain ⟨gc, oc, rfl, hgc, hcc0⟩ := hin i c hc
        have hcc : wr.cell? ⟨gc, oc + i, none⟩ = some (.int .u8 (c.toNat : Int)) := by rw [hK.cell (p := ⟨gc, oc + i, none⟩) hgc (fun h => h)]; exact hcc0
        have hc256 := c.toNat_lt
        have hgd : cs.getD i 0 = c := by rw [List.getD_eq_getElem?_getD, hc]; rfl
        have hsn : szS 1 cs (i + 1) = min (szS 1 cs i * (c.toNat : Int)) 65537 := by simp only [szS, hgd]
        have hmul0 : 0 ≤ szS 1 cs i * (c.toNat : Int) := Int.mul_nonneg hrg.1 (Int.natCast_nonneg _)
        have hmul1 : szS 1 cs i * (c.toNat : Int) ≤ 65537 * 255 := Int.mul_le_mul hrg.2 (by omega) (Int.natCast_nonneg _) (by omega)
        have hon := ovS_next (s := 1) (cs := cs) (i + 1)
        have hop : ovP 1 cs (i + 1) = decide (65536 < szS 1 cs (i + 1)) := rfl
        have hanx := arr_next (s := 1) hc
        have HL := Lib.hid hlen
        have HANX := Lib.hid hanx
        clear hlen hgd hanx
        generalize hss1 : szS 1 cs (i + 1) = ss1 at *
        generalize hss : szS 1 cs i = ss at *
        generalize hoo1 : ovS 1 cs (i + 1 + 1) = oo1 at *
        generalize hoo : ovS 1 cs (i + 1) = oo at *
        have Hss1 := Lib.hid hss1
        have Hss := Lib.hid hss
        have Hoo1 := Lib.hid hoo1
        have Hoo := Lib.hid hoo
        have HSN := Lib.hid hsn
        have HON := Lib.hid hon
        have HOP := Lib.hid hop
        clear hss1 hss hoo1 hoo hsn hon hop
        by_cases hbig : 65536 < ss * (c.toNat : Int)
        · have hs1 : ss1 = 65537 := by have := HSN.out; omega
          have hp1 : ovP 1 cs (i + 1) = true := by rw [HOP.out]; exact decide_eq_true (by omega)
          by_cases hneg : oo < 0
          · have ho1 : oo1 = (i : Int) + 1 + 1 := by have h := HON.out; rw [if_pos hneg, hp1, if_pos rfl] at h; omega
            have HS1 := Lib.hid hs1
            have HO1 := Lib.hid ho1
            clear hs1 ho1 hp1
            go_wp2_with (at_builtin; refine wpList_pushG (w := wr) rfl (.tmp 30) (.tmp 39) 22 rfl Tryd.underlying22 hI0 hI1 hI2 hI3 rfl (by omega) (.slice lA (i + 1) lC) ((arrL 1 (cs.take i)).map rowT) (rowT (arrT i c)) rfl rfl hS rfl (by simp [rowT, arrT, Value.oneCell']) (by rw [HL.out]; omega) (by omega) ?_; intro g5 cap5 w5 hS5 hk5 hg5; rw [HL.out] at hS5 ⊢; have hK5 : Kept (fun _ => False) w w5 := hK.trans hk5 (fun k hk e => by have := hown k e; omega); have hcc5 : w5.cell? ⟨gc, oc + i, none⟩ = some (.int .u8 (c.toNat : Int)) := (by rw [hK5.cell (p := ⟨gc, oc + i, none⟩) hgc (fun h => h)]; exact hcc0))
            have hS6 : Sg w5 38 7 (.slice (some ⟨g5, 0, none⟩) (i + 1 + 1) cap5) ((arrL 1 (cs.take (i + 1))).map rowT) := by rw [HANX.out, List.map_append]; exact hS5
            have hown5 : ∀ g, (Value.slice (some ⟨g5, 0, none⟩) (i + 1 + 1) cap5).ownBlock = some g → w.heap.size ≤ g := fun g' hg' => by
              simp only [Value.ownBlock, Option.some.injEq] at hg'
              subst hg'
              rcases hg5 with e | e
              · exact hown _ e
              · have := hK.size
                omega
            go_roundw
            case rel => exact ⟨i + 1, by go_num, by rw [Hss1.out, HS1.out], by rw [Hoo1.out, HO1.out], by omega, hS6, hown5, hK5⟩
            case measure => simp [intOf]; omega
          · have ho1 : oo1 = oo := by have h := HON.out; rw [if_neg hneg] at h; exact h
            have HS1 := Lib.hid hs1
            have HO1 := Lib.hid ho1
            clear hs1 ho1 hp1
            go_wp2_with (at_builtin; refine wpList_pushG (w := wr) rfl (.tmp 30) (.tmp 39) 22 rfl Tryd.underlying22 hI0 hI1 hI2 hI3 rfl (by omega) (.slice lA (i + 1) lC) ((arrL 1 (cs.take i)).map rowT) (rowT (arrT i c)) rfl rfl hS rfl (by simp [rowT, arrT, Value.oneCell']) (by rw [HL.out]; omega) (by omega) ?_; intro g5 cap5 w5 hS5 hk5 hg5; rw [HL.out] at hS5 ⊢; have hK5 : Kept (fun _ => False) w w5 := hK.trans hk5 (fun k hk e => by have := hown k e; omega); have hcc5 : w5.cell? ⟨gc, oc + i, none⟩ = some (.int .u8 (c.toNat : Int)) := (by rw [hK5.cell (p := ⟨gc, oc + i, none⟩) hgc (fun h => h)]; exact hcc0))
            have hS6 : Sg w5 38 7 (.slice (some ⟨g5, 0, none⟩) (i + 1 + 1) cap5) ((arrL 1 (cs.take (i + 1))).map rowT) := by rw [HANX.out, List.map_append]; exact hS5
            have hown5 : ∀ g, (Value.slice (some ⟨g5, 0, none⟩) (i + 1 + 1) cap5).ownBlock = some g → w.heap.size ≤ g := fun g' hg' => by
              simp only [Value.ownBlock, Option.some.injEq] at hg'
              subst hg'
              rcases hg5 with e | e
              · exact hown _ e
              · have := hK.size
                omega
            go_roundw
            case rel => exact ⟨i + 1, by go_num, by rw [Hss1.out, HS1.out], by rw [Hoo1.out, HO1.out], by omega, hS6, hown5, hK5⟩
            case measure => simp [intOf]; omega
        · have hs1 : ss1 = ss * (c.toNat : Int) := by have := HSN.out; omega
          have hp1 : ovP 1 cs (i + 1) = false := by rw [HOP.out]; exact decide_eq_false (by omega)
          have ho1 : oo1 = if oo < 0 then -1 else oo := by have h := HON.out; rw [hp1] at h; simpa using h
          have ho2 : oo1 = oo := by
            rw [ho1]
            split
            · have := Hoo.out
              unfold ovS at this
              cases hf : firstF (ovP 1 cs) (i + 1) with
              | none => rw [hf] at this; exact this
              | some j => rw [hf] at this; simp only at this; omega
            · rfl
          have HS1 := Lib.hid hs1
          have HO1 := Lib.hid ho2
          clear hs1 ho1 hp1 ho2
          go_wp2_with (at_builtin; refine wpList_pushG (w := wr) rfl (.tmp 30) (.tmp 39) 22 rfl Tryd.underlying22 hI0 hI1 hI2 hI3 rfl (by omega) (.slice lA (i + 1) lC) ((arrL 1 (cs.take i)).map rowT) (rowT (arrT i c)) rfl rfl hS rfl (by simp [rowT, arrT, Value.oneCell']) (by rw [HL.out]; omega) (by omega) ?_; intro g5 cap5 w5 hS5 hk5 hg5; rw [HL.out] at hS5 ⊢; have hK5 : Kept (fun _ => False) w w5 := hK.trans hk5 (fun k hk e => by have := hown k e; omega); have hcc5 : w5.cell? ⟨gc, oc + i, none⟩ = some (.int .u8 (c.toNat : Int)) := (by rw [hK5.cell (p := ⟨gc, oc + i, none⟩) hgc (fun h => h)]; exact hcc0))
          have hS6 : Sg w5 38 7 (.slice (some ⟨g5, 0, none⟩) (i + 1 + 1) cap5) ((arrL 1 (cs.take (i + 1))).map rowT) := by rw [HANX.out, List.map_append]; exact hS5
          have hown5 : ∀ g, (Value.slice (some ⟨g5, 0, none⟩) (i + 1 + 1) cap5).ownBlock = some g → w.heap.size ≤ g := fun g' hg' => by
            simp only [Value.ownBlock, Option.some.injEq] at hg'
            subst hg'
            rcases hg5 with e | e
            · exact hown _ e
            · have := hK.size
              omega
          go_roundw
          case rel => exact ⟨i + 1, by go_num, by rw [Hss1.out, HS1.out], by rw [Hoo1.out, HO1.out], by omega, hS6, hown5, hK5⟩
          case measure => simp [intOf]; omega
  · skip
    have hpow : wrap64 ((2 : Int) ^ (u.toNat % 4)) = 2 := by
      have hN : u.toNat % 4 = 1 := by omega
      rw [hN]
      first | decide +kernel | rfl | (simp [wrap64])
    clear hmod hu
    go_wp2_with fail
    rw [hpow]
    clear hpow
    have hsl := (slNew w1 38 (rowT (unitT 2))).sg
    have hsz0 : szS 2 cs 0 = 2 := rfl
    have hov0 : ovS 2 cs (0 + 1) = -1 := by
      have h := ovS_next (s := 2) (cs := cs) 0
      have h2 : ovS 2 cs 0 = -1 := rfl
      have h3 : ovP 2 cs 0 = false := by unfold ovP szS; decide
      rw [h2, h3] at h
      exact h
    have harr0 : (arrL 2 (cs.take 0)).map rowT = [rowT (unitT 2)] := rfl
    have HSZ := Lib.hid hsz0
    have HOV := Lib.hid hov0
    clear hsz0 hov0
    go_loopw [8, 6, 5, 7] (fun iv lv sv ov wr => ∃ i : Nat, iv = .int .i64 i ∧ sv = .int .i64 (szS 2 cs i) ∧ ov = .int .i64 (ovS 2 cs (i + 1)) ∧ i ≤ cs.length ∧ Sg wr 38 7 lv ((arrL 2 (cs.take i)).map rowT) ∧ (∀ g, lv.ownBlock = some g → w.heap.size ≤ g) ∧ Kept (fun _ => False) w wr) (fun iv _ _ _ _ => cs.length - (intOf iv).toNat)
    case atStart => exact ⟨0, rfl, by rw [HSZ.out], by rw [HOV.out], Nat.zero_le _, by rw [harr0]; exact hsl, by intro g hg; simp only [Value.ownBlock, Option.some.injEq] at hg; have := hk1.size; omega, hk1.alloc _⟩
    case round =>
      clear hk1 hsl harr0 HSZ HOV
      obtain ⟨i, rfl, rfl, rfl, hi, hS, hown, hK⟩ := hrel
      have hlen : ((arrL 2 (cs.take i)).map rowT).length = i + 1 := by rw [List.length_map, arrL_len, List.length_take]; omega
      obtain ⟨lA, lC, hlv⟩ := hS.any
      rw [hlen] at hlv
      subst hlv
      have hrg := szS_range (cs := cs) (s := 2) (by omega) i
      by_cases hlt : i < cs.length
      case neg =>
        obtain rfl : i = cs.length := by omega
        rw [List.take_length] at hS
        obtain ⟨g, c9, hv9, hT⟩ := tys_of_sg hS (by rw [arrL_len]; omega) arr_mem
        rw [arrL_len] at hv9 hT
        obtain ⟨rfl, -, rfl⟩ := Value.slice.inj hv9
        clear hv9
        have hraw := raw_arr (s := 2) (cs := cs) (by omega)
        have hchk := arr_check (s := 2) (cs := cs) (by omega) (by omega)
        have hCA := Lib.hid (fun W hW => check_any (arrL 2 cs) (some ⟨g, 0, none⟩) lC W hW hraw)
        rw [arrL_len] at hCA
        by_cases ho : ovS 2 cs (cs.length + 1) < 0
        · have hsr := arr_sizeR (s := 2) (cs := cs) (by omega) (by omega) ho
          rw [if_pos ho] at hchk
          have hSA := Lib.hid (fun W hW => sizeR_any (arrL 2 cs) (some ⟨g, 0, none⟩) lC ((cs.length : Int) + 1) W hW hraw)
          rw [arrL_len, hsr] at hSA
          rw [hchk] at hCA
          have f0 : decide (0 ≤ ovS 2 cs (cs.length + 1)) = false := decide_eq_false (by omega)
          clear hsr hchk
          generalize ovS 2 cs (cs.length + 1) = ovv at *
          generalize szS 2 cs cs.length = szz at *
          go_wp2_with fail
          refine (hCA.out _ hT).mono ?_
          rintro e w2 ⟨rfl, hk2⟩
          go_wp2_with fail
          refine (hSA.out _ (hT.kept hk2)).mono ?_
          rintro e w3 ⟨rfl, hk3⟩
          go_wp2_with fail
          go_ret
          exact ⟨rfl, (hK.trans hk2 (fun _ _ h => h)).trans hk3 (fun _ _ h => h)⟩
        · rw [if_neg ho] at hchk
          rw [hchk] at hCA
          have f0 : decide (0 ≤ ovS 2 cs (cs.length + 1)) = true := decide_eq_true (by omega)
          clear hchk
          generalize ovS 2 cs (cs.length + 1) = ovv at *
          generalize szS 2 cs cs.length = szz at *
          go_wp2_with fail
          refine (hCA.out _ hT).mono ?_
          rintro e w2 ⟨rfl, hk2⟩
          go_wp2_with fail
          go_ret
          exact ⟨rfl, hK.trans hk2 (fun _ _ h => h)⟩
      case pos =>
        obtain ⟨c, hc⟩ : ∃ c, cs[i]? = some c := ⟨_, List.getElem?_eq_getElem hlt⟩
        obtain ⟨gc, oc, rfl, hgc, hcc0⟩ := hin i c hc
        have hcc : wr.cell? ⟨gc, oc + i, none⟩ = some (.int .u8 (c.toNat : Int)) := by rw [hK.cell (p := ⟨gc, oc + i, none⟩) hgc (fun h => h)]; exact hcc0
        have hc256 := c.toNat_lt
        have hgd : cs.getD i 0 = c := by rw [List.getD_eq_getElem?_getD, hc]; rfl
        have hsn : szS 2 cs (i + 1) = min (szS 2 cs i * (c.toNat : Int)) 65537 := by simp only [szS, hgd]
        have hmul0 : 0 ≤ szS 2 cs i * (c.toNat : Int) := Int.mul_nonneg hrg.1 (Int.natCast_nonneg _)
        have hmul1 : szS 2 cs i * (c.toNat : Int) ≤ 65537 * 255 := Int.mul_le_mul hrg.2 (by omega) (Int.natCast_nonneg _) (by omega)
        have hon := ovS_next (s := 2) (cs := cs) (i + 1)
        have hop : ovP 2 cs (i + 1) = decide (65536 < szS 2 cs (i + 1)) := rfl
        have hanx := arr_next (s := 2) hc
        have HL := Lib.hid hlen
        have HANX := Lib.hid hanx
        clear hlen hgd hanx
        generalize hss1 : szS 2 cs (i + 1) = ss1 at *
        generalize hss : szS 2 cs i = ss at *
        generalize hoo1 : ovS 2 cs (i + 1 + 1) = oo1 at *
        generalize hoo : ovS 2 cs (i + 1) = oo at *
        have Hss1 := Lib.hid hss1
        have Hss := Lib.hid hss
        have Hoo1 := Lib.hid hoo1
        have Hoo := Lib.hid hoo
        have HSN := Lib.hid hsn
        have HON := Lib.hid hon
        have HOP := Lib.hid hop
        clear hss1 hss hoo1 hoo hsn hon hop
        by_cases hbig : 65536 < ss * (c.toNat : Int)
        · have hs1 : ss1 = 65537 := by have := HSN.out; omega
          have hp1 : ovP 2 cs (i + 1) = true := by rw [HOP.out]; exact decide_eq_true (by omega)
          by_cases hneg : oo < 0
          · have ho1 : oo1 = (i : Int) + 1 + 1 := by have h := HON.out; rw [if_pos hneg, hp1, if_pos rfl] at h; omega
            have HS1 := Lib.hid hs1
            have HO1 := Lib.hid ho1
            clear hs1 ho1 hp1
            go_wp2_with (at_builtin; refine wpList_pushG (w := wr) rfl (.tmp 30) (.tmp 39) 22 rfl Tryd.underlying22 hI0 hI1 hI2 hI3 rfl (by omega) (.slice lA (i + 1) lC) ((arrL 2 (cs.take i)).map rowT) (rowT (arrT i c)) rfl rfl hS rfl (by simp [rowT, arrT, Value.oneCell']) (by rw [HL.out]; omega) (by omega) ?_; intro g5 cap5 w5 hS5 hk5 hg5; rw [HL.out] at hS5 ⊢; have hK5 : Kept (fun _ => False) w w5 := hK.trans hk5 (fun k hk e => by have := hown k e; omega); have hcc5 : w5.cell? ⟨gc, oc + i, none⟩ = some (.int .u8 (c.toNat : Int)) := (by rw [hK5.cell (p := ⟨gc, oc + i, none⟩) hgc (fun h => h)]; exact hcc0))
            have hS6 : Sg w5 38 7 (.slice (some ⟨g5, 0, none⟩) (i + 1 + 1) cap5) ((arrL 2 (cs.take (i + 1))).map rowT) := by rw [HANX.out, List.map_append]; exact hS5
            have hown5 : ∀ g, (Value.slice (some ⟨g5, 0, none⟩) (i + 1 + 1) cap5).ownBlock = some g → w.heap.size ≤ g := fun g' hg' => by
              simp only [Value.ownBlock, Option.some.injEq] at hg'
              subst hg'
              rcases hg5 with e | e
              · exact hown _ e
              · have := hK.size
                omega
            go_roundw
            case rel => exact ⟨i + 1, by go_num, by rw [Hss1.out, HS1.out], by rw [Hoo1.out, HO1.out], by omega, hS6, hown5, hK5⟩
            case measure => simp [intOf]; omega
          · have ho1 : oo1 = oo := by have h := HON.out; rw [if_neg hneg] at h; exact h
            have HS1 := Lib.hid hs1
            have HO1 := Lib.hid ho1
            clear hs1 ho1 hp1
            go_wp2_with (at_builtin; refine wpList_pushG (w := wr) rfl (.tmp 30) (.tmp 39) 22 rfl Tryd.underlying22 hI0 hI1 hI2 hI3 rfl (by omega) (.slice lA (i + 1) lC) ((arrL 2 (cs.take i)).map rowT) (rowT (arrT i c)) rfl rfl hS rfl (by simp [rowT, arrT, Value.oneCell']) (by rw [HL.out]; omega) (by omega) ?_; intro g5 cap5 w5 hS5 hk5 hg5; rw [HL.out] at hS5 ⊢; have hK5 : Kept (fun _ => False) w w5 := hK.trans hk5 (fun k hk e => by have := hown k e; omega); have hcc5 : w5.cell? ⟨gc, oc + i, none⟩ = some (.int .u8 (c.toNat : Int)) := (by rw [hK5.cell (p := ⟨gc, oc + i, none⟩) hgc (fun h => h)]; exact hcc0))
            have hS6 : Sg w5 38 7 (.slice (some ⟨g5, 0, none⟩) (i + 1 + 1) cap5) ((arrL 2 (cs.take (i + 1))).map rowT) := by rw [HANX.out, List.map_append]; exact hS5
            have hown5 : ∀ g, (Value.slice (some ⟨g5, 0, none⟩) (i + 1 + 1) cap5).ownBlock = some g → w.heap.size ≤ g := fun g' hg' => by
              simp only [Value.ownBlock, Option.some.injEq] at hg'
              subst hg'
              rcases hg5 with e | e
              · exact hown _ e
              · have := hK.size
                omega
            go_roundw
            case rel => exact ⟨i + 1, by go_num, by rw [Hss1.out, HS1.out], by rw [Hoo1.out, HO1.out], by omega, hS6, hown5, hK5⟩
            case measure => simp [intOf]; omega
        · have hs1 : ss1 = ss * (c.toNat : Int) := by have := HSN.out; omega
          have hp1 : ovP 2 cs (i + 1) = false := by rw [HOP.out]; exact decide_eq_false (by omega)
          have ho1 : oo1 = if oo < 0 then -1 else oo := by have h := HON.out; rw [hp1] at h; simpa using h
          have ho2 : oo1 = oo := by
            rw [ho1]
            split
            · have := Hoo.out
              unfold ovS at this
              cases hf : firstF (ovP 2 cs) (i + 1) with
              | none => rw [hf] at this; exact this
              | some j => rw [hf] at this; simp only at this; omega
            · rfl
          have HS1 := Lib.hid hs1
          have HO1 := Lib.hid ho2
          clear hs1 ho1 hp1 ho2
          go_wp2_with (at_builtin; refine wpList_pushG (w := wr) rfl (.tmp 30) (.tmp 39) 22 rfl Tryd.underlying22 hI0 hI1 hI2 hI3 rfl (by omega) (.slice lA (i + 1) lC) ((arrL 2 (cs.take i)).map rowT) (rowT (arrT i c)) rfl rfl hS rfl (by simp [rowT, arrT, Value.oneCell']) (by rw [HL.out]; omega) (by omega) ?_; intro g5 cap5 w5 hS5 hk5 hg5; rw [HL.out] at hS5 ⊢; have hK5 : Kept (fun _ => False) w w5 := hK.trans hk5 (fun k hk e => by have := hown k e; omega); have hcc5 : w5.cell? ⟨gc, oc + i, none⟩ = some (.int .u8 (c.toNat : Int)) := (by rw [hK5.cell (p := ⟨gc, oc + i, none⟩) hgc (fun h => h)]; exact hcc0))
          have hS6 : Sg w5 38 7 (.slice (some ⟨g5, 0, none⟩) (i + 1 + 1) cap5) ((arrL 2 (cs.take (i + 1))).map rowT) := by rw [HANX.out, List.map_append]; exact hS5
          have hown5 : ∀ g, (Value.slice (some ⟨g5, 0, none⟩) (i + 1 + 1) cap5).ownBlock = some g → w.heap.size ≤ g := fun g' hg' => by
            simp only [Value.ownBlock, Option.some.injEq] at hg'
            subst hg'
            rcases hg5 with e | e
            · exact hown _ e
            · have := hK.size
              omega
          go_roundw
          case rel => exact ⟨i + 1, by go_num, by rw [Hss1.out, HS1.out], by rw [Hoo1.out, HO1.out], by omega, hS6, hown5, hK5⟩
          case measure => simp [intOf]; omega
  · skip
    have hpow : wrap64 ((2 : Int) ^ (u.toNat % 4)) = 4 := by
      have hN : u.toNat % 4 = 2 := by omega
      rw [hN]
      first | decide +kernel | rfl | (simp [wrap64])
    clear hmod hu
    go_wp2_with fail
    rw [hpow]
    clear hpow
    have hsl := (slNew w1 38 (rowT (unitT 4))).sg
    have hsz0 : szS 4 cs 0 = 4 := rfl
    have hov0 : ovS 4 cs (0 + 1) = -1 := by
      have h := ovS_next (s := 4) (cs := cs) 0
      have h2 : ovS 4 cs 0 = -1 := rfl
      have h3 : ovP 4 cs 0 = false := by unfold ovP szS; decide
      rw [h2, h3] at h
      exact h
    have harr0 : (arrL 4 (cs.take 0)).map rowT = [rowT (unitT 4)] := rfl
    have HSZ := Lib.hid hsz0
    have HOV := Lib.hid hov0
    clear hsz0 hov0
    go_loopw [8, 6, 5, 7] (fun iv lv sv ov wr => ∃ i : Nat, iv = .int .i64 i ∧ sv = .int .i64 (szS 4 cs i) ∧ ov = .int .i64 (ovS 4 cs (i + 1)) ∧ i ≤ cs.length ∧ Sg wr 38 7 lv ((arrL 4 (cs.take i)).map rowT) ∧ (∀ g, lv.ownBlock = some g → w.heap.size ≤ g) ∧ Kept (fun _ => False) w wr) (fun iv _ _ _ _ => cs.length - (intOf iv).toNat)
    case atStart => exact ⟨0, rfl, by rw [HSZ.out], by rw [HOV.out], Nat.zero_le _, by rw [harr0]; exact hsl, by intro g hg; simp only [Value.ownBlock, Option.some.injEq] at hg; have := hk1.size; omega, hk1.alloc _⟩
    case round =>
      clear hk1 hsl harr0 HSZ HOV
      obtain ⟨i, rfl, rfl, rfl, hi, hS, hown, hK⟩ := hrel
      have hlen : ((arrL 4 (cs.take i)).map rowT).length = i + 1 := by rw [List.length_map, arrL_len, List.length_take]; omega
      obtain ⟨lA, lC, hlv⟩ := hS.any
      rw [hlen] at hlv
      subst hlv
      have hrg := szS_range (cs := cs) (s := 4) (by omega) i
      by_cases hlt : i < cs.length
      case neg =>
        obtain rfl : i = cs.length := by omega
        rw [List.take_length] at hS
        obtain ⟨g, c9, hv9, hT⟩ := tys_of_sg hS (by rw [arrL_len]; omega) arr_mem
        rw [arrL_len] at hv9 hT
        obtain ⟨rfl, -, rfl⟩ := Value.slice.inj hv9
        clear hv9
        have hraw := raw_arr (s := 4) (cs := cs) (by omega)
        have hchk := arr_check (s := 4) (cs := cs) (by omega) (by omega)
        have hCA := Lib.hid (fun W hW => check_any (arrL 4 cs) (some ⟨g, 0, none⟩) lC W hW hraw)
        rw [arrL_len] at hCA
        by_cases ho : ovS 4 cs (cs.length + 1) < 0
        · have hsr := arr_sizeR (s := 4) (cs := cs) (by omega) (by omega) ho
          rw [if_pos ho] at hchk
          have hSA := Lib.hid (fun W hW => sizeR_any (arrL 4 cs) (some ⟨g, 0, none⟩) lC ((cs.length : Int) + 1) W hW hraw)
          rw [arrL_len, hsr] at hSA
          rw [hchk] at hCA
          have f0 : decide (0 ≤ ovS 4 cs (cs.length + 1)) = false := decide_eq_false (by omega)
          clear hsr hchk
          generalize ovS 4 cs (cs.length + 1) = ovv at *
          generalize szS 4 cs cs.length = szz at *
          go_wp2_with fail
          refine (hCA.out _ hT).mono ?_
          rintro e w2 ⟨rfl, hk2⟩
          go_wp2_with fail
          refine (hSA.out _ (hT.kept hk2)).mono ?_
          rintro e w3 ⟨rfl, hk3⟩
          go_wp2_with fail
          go_ret
          exact ⟨rfl, (hK.trans hk2 (fun _ _ h => h)).trans hk3 (fun _ _ h => h)⟩
        · rw [if_neg ho] at hchk
          rw [hchk] at hCA
          have f0 : decide (0 ≤ ovS 4 cs (cs.length + 1)) = true := decide_eq_true (by omega)
          clear hchk
          generalize ovS 4 cs (cs.length + 1) = ovv at *
          generalize szS 4 cs cs.length = szz at *
          go_wp2_with fail
          refine (hCA.out _ hT).mono ?_
          rintro e w2 ⟨rfl, hk2⟩
          go_wp2_with fail
          go_ret
          exact ⟨rfl, hK.trans hk2 (fun _ _ h => h)⟩
      case pos =>
        obtain ⟨c, hc⟩ : ∃ c, cs[i]? = some c := ⟨_, List.getElem?_eq_getElem hlt⟩
        obtain ⟨gc, oc, rfl, hgc, hcc0⟩ := hin i c hc
        have hcc : wr.cell? ⟨gc, oc + i, none⟩ = some (.int .u8 (c.toNat : Int)) := by rw [hK.cell (p := ⟨gc, oc + i, none⟩) hgc (fun h => h)]; exact hcc0
        have hc256 := c.toNat_lt
        have hgd : cs.getD i 0 = c := by rw [List.getD_eq_getElem?_getD, hc]; rfl
        have hsn : szS 4 cs (i + 1) = min (szS 4 cs i * (c.toNat : Int)) 65537 := by simp only [szS, hgd]
        have hmul0 : 0 ≤ szS 4 cs i * (c.toNat : Int) := Int.mul_nonneg hrg.1 (Int.natCast_nonneg _)
        have hmul1 : szS 4 cs i * (c.toNat : Int) ≤ 65537 * 255 := Int.mul_le_mul hrg.2 (by omega) (Int.natCast_nonneg _) (by omega)
        have hon := ovS_next (s := 4) (cs := cs) (i + 1)
        have hop : ovP 4 cs (i + 1) = decide (65536 < szS 4 cs (i + 1)) := rfl
        have hanx := arr_next (s := 4) hc
        have HL := Lib.hid hlen
        have HANX := Lib.hid hanx
        clear hlen hgd hanx
        generalize hss1 : szS 4 cs (i + 1) = ss1 at *
        generalize hss : szS 4 cs i = ss at *
        generalize hoo1 : ovS 4 cs (i + 1 + 1) = oo1 at *
        generalize hoo : ovS 4 cs (i + 1) = oo at *
        have Hss1 := Lib.hid hss1
        have Hss := Lib.hid hss
        have Hoo1 := Lib.hid hoo1
        have Hoo := Lib.hid hoo
        have HSN := Lib.hid hsn
        have HON := Lib.hid hon
        have HOP := Lib.hid hop
        clear hss1 hss hoo1 hoo hsn hon hop
        by_cases hbig : 65536 < ss * (c.toNat : Int)
        · have hs1 : ss1 = 65537 := by have := HSN.out; omega
          have hp1 : ovP 4 cs (i + 1) = true := by rw [HOP.out]; exact decide_eq_true (by omega)
          by_cases hneg : oo < 0
          · have ho1 : oo1 = (i : Int) + 1 + 1 := by have h := HON.out; rw [if_pos hneg, hp1, if_pos rfl] at h; omega
            have HS1 := Lib.hid hs1
            have HO1 := Lib.hid ho1
            clear hs1 ho1 hp1
            go_wp2_with (at_builtin; refine wpList_pushG (w := wr) rfl (.tmp 30) (.tmp 39) 22 rfl Tryd.underlying22 hI0 hI1 hI2 hI3 rfl (by omega) (.slice lA (i + 1) lC) ((arrL 4 (cs.take i)).map rowT) (rowT (arrT i c)) rfl rfl hS rfl (by simp [rowT, arrT, Value.oneCell']) (by rw [HL.out]; omega) (by omega) ?_; intro g5 cap5 w5 hS5 hk5 hg5; rw [HL.out] at hS5 ⊢; have hK5 : Kept (fun _ => False) w w5 := hK.trans hk5 (fun k hk e => by have := hown k e; omega); have hcc5 : w5.cell? ⟨gc, oc + i, none⟩ = some (.int .u8 (c.toNat : Int)) := (by rw [hK5.cell (p := ⟨gc, oc + i, none⟩) hgc (fun h => h)]; exact hcc0))
            have hS6 : Sg w5 38 7 (.slice (some ⟨g5, 0, none⟩) (i + 1 + 1) cap5) ((arrL 4 (cs.take (i + 1))).map rowT) := by rw [HANX.out, List.map_append]; exact hS5
            have hown5 : ∀ g, (Value.slice (some ⟨g5, 0, none⟩) (i + 1 + 1) cap5).ownBlock = some g → w.heap.size ≤ g := fun g' hg' => by
              simp only [Value.ownBlock, Option.some.injEq] at hg'
              subst hg'
              rcases hg5 with e | e
              · exact hown _ e
              · have := hK.size
                omega
            go_roundw
            case rel => exact ⟨i + 1, by go_num, by rw [Hss1.out, HS1.out], by rw [Hoo1.out, HO1.out], by omega, hS6, hown5, hK5⟩
            case measure => simp [intOf]; omega
          · have ho1 : oo1 = oo := by have h := HON.out; rw [if_neg hneg] at h; exact h
            have HS1 := Lib.hid hs1
            have HO1 := Lib.hid ho1
            clear hs1 ho1 hp1
            go_wp2_with (at_builtin; refine wpList_pushG (w := wr) rfl (.tmp 30) (.tmp 39) 22 rfl Tryd.underlying22 hI0 hI1 hI2 hI3 rfl (by omega) (.slice lA (i + 1) lC) ((arrL 4 (cs.take i)).map rowT) (rowT (arrT i c)) rfl rfl hS rfl (by simp [rowT, arrT, Value.oneCell']) (by rw [HL.out]; omega) (by omega) ?_; intro g5 cap5 w5 hS5 hk5 hg5; rw [HL.out] at hS5 ⊢; have hK5 : Kept (fun _ => False) w w5 := hK.trans hk5 (fun k hk e => by have := hown k e; omega); have hcc5 : w5.cell? ⟨gc, oc + i, none⟩ = some (.int .u8 (c.toNat : Int)) := (by rw [hK5.cell (p := ⟨gc, oc + i, none⟩) hgc (fun h => h)]; exact hcc0))
            have hS6 : Sg w5 38 7 (.slice (some ⟨g5, 0, none⟩) (i + 1 + 1) cap5) ((arrL 4 (cs.take (i + 1))).map rowT) := by rw [HANX.out, List.map_append]; exact hS5
            have hown5 : ∀ g, (Value.slice (some ⟨g5, 0, none⟩) (i + 1 + 1) cap5).ownBlock = some g → w.heap.size ≤ g := fun g' hg' => by
              simp only [Value.ownBlock, Option.some.injEq] at hg'
              subst hg'
              rcases hg5 with e | e
              · exact hown _ e
              · have := hK.size
                omega
            go_roundw
            case rel => exact ⟨i + 1, by go_num, by rw [Hss1.out, HS1.out], by rw [Hoo1.out, HO1.out], by omega, hS6, hown5, hK5⟩
            case measure => simp [intOf]; omega
        · have hs1 : ss1 = ss * (c.toNat : Int) := by have := HSN.out; omega
          have hp1 : ovP 4 cs (i + 1) = false := by rw [HOP.out]; exact decide_eq_false (by omega)
          have ho1 : oo1 = if oo < 0 then -1 else oo := by have h := HON.out; rw [hp1] at h; simpa using h
          have ho2 : oo1 = oo := by
            rw [ho1]
            split
            · have := Hoo.out
              unfold ovS at this
              cases hf : firstF (ovP 4 cs) (i + 1) with
              | none => rw [hf] at this; exact this
              | some j => rw [hf] at this; simp only at this; omega
            · rfl
          have HS1 := Lib.hid hs1
          have HO1 := Lib.hid ho2
          clear hs1 ho1 hp1 ho2
          go_wp2_with (at_builtin; refine wpList_pushG (w := wr) rfl (.tmp 30) (.tmp 39) 22 rfl Tryd.underlying22 hI0 hI1 hI2 hI3 rfl (by omega) (.slice lA (i + 1) lC) ((arrL 4 (cs.take i)).map rowT) (rowT (arrT i c)) rfl rfl hS rfl (by simp [rowT, arrT, Value.oneCell']) (by rw [HL.out]; omega) (by omega) ?_; intro g5 cap5 w5 hS5 hk5 hg5; rw [HL.out] at hS5 ⊢; have hK5 : Kept (fun _ => False) w w5 := hK.trans hk5 (fun k hk e => by have := hown k e; omega); have hcc5 : w5.cell? ⟨gc, oc + i, none⟩ = some (.int .u8 (c.toNat : Int)) := (by rw [hK5.cell (p := ⟨gc, oc + i, none⟩) hgc (fun h => h)]; exact hcc0))
          have hS6 : Sg w5 38 7 (.slice (some ⟨g5, 0, none⟩) (i + 1 + 1) cap5) ((arrL 4 (cs.take (i + 1))).map rowT) := by rw [HANX.out, List.map_append]; exact hS5
          have hown5 : ∀ g, (Value.slice (some ⟨g5, 0, none⟩) (i + 1 + 1) cap5).ownBlock = some g → w.heap.size ≤ g := fun g' hg' => by
            simp only [Value.ownBlock, Option.some.injEq] at hg'
            subst hg'
            rcases hg5 with e | e
            · exact hown _ e
            · have := hK.size
              omega
          go_roundw
          case rel => exact ⟨i + 1, by go_num, by rw [Hss1.out, HS1.out], by rw [Hoo1.out, HO1.out], by omega, hS6, hown5, hK5⟩
          case measure => simp [intOf]; omega
  · skip
    have hpow : wrap64 ((2 : Int) ^ (u.toNat % 4)) = 8 := by
      have hN : u.toNat % 4 = 3 := by omega
      rw [hN]
      first | decide +kernel | rfl | (simp [wrap64])
    clear hmod hu
    go_wp2_with fail
    rw [hpow]
    clear hpow
    have hsl := (slNew w1 38 (rowT (unitT 8))).sg
    have hsz0 : szS 8 cs 0 = 8 := rfl
    have hov0 : ovS 8 cs (0 + 1) = -1 := by
      have h := ovS_next (s := 8) (cs := cs) 0
      have h2 : ovS 8 cs 0 = -1 := rfl
      have h3 : ovP 8 cs 0 = false := by unfold ovP szS; decide
      rw [h2, h3] at h
      exact h
    have harr0 : (arrL 8 (cs.take 0)).map rowT = [rowT (unitT 8)] := rfl
    have HSZ := Lib.hid hsz0
    have HOV := Lib.hid hov0
    clear hsz0 hov0
    go_loopw [8, 6, 5, 7] (fun iv lv sv ov wr => ∃ i : Nat, iv = .int .i64 i ∧ sv = .int .i64 (szS 8 cs i) ∧ ov = .int .i64 (ovS 8 cs (i + 1)) ∧ i ≤ cs.length ∧ Sg wr 38 7 lv ((arrL 8 (cs.take i)).map rowT) ∧ (∀ g, lv.ownBlock = some g → w.heap.size ≤ g) ∧ Kept (fun _ => False) w wr) (fun iv _ _ _ _ => cs.length - (intOf iv).toNat)
    case atStart => exact ⟨0, rfl, by rw [HSZ.out], by rw [HOV.out], Nat.zero_le _, by rw [harr0]; exact hsl, by intro g hg; simp only [Value.ownBlock, Option.some.injEq] at hg; have := hk1.size; omega, hk1.alloc _⟩
    case round =>
      clear hk1 hsl harr0 HSZ HOV
      obtain ⟨i, rfl, rfl, rfl, hi, hS, hown, hK⟩ := hrel
      have hlen : ((arrL 8 (cs.take i)).map rowT).length = i + 1 := by rw [List.length_map, arrL_len, List.length_take]; omega
      obtain ⟨lA, lC, hlv⟩ := hS.any
      rw [hlen] at hlv
      subst hlv
      have hrg := szS_range (cs := cs) (s := 8) (by omega) i
      by_cases hlt : i < cs.length
      case neg =>
        obtain rfl : i = cs.length := by omega
        rw [List.take_length] at hS
        obtain ⟨g, c9, hv9, hT⟩ := tys_of_sg hS (by rw [arrL_len]; omega) arr_mem
        rw [arrL_len] at hv9 hT
        obtain ⟨rfl, -, rfl⟩ := Value.slice.inj hv9
        clear hv9
        have hraw := raw_arr (s := 8) (cs := cs) (by omega)
        have hchk := arr_check (s := 8) (cs := cs) (by omega) (by omega)
        have hCA := Lib.hid (fun W hW => check_any (arrL 8 cs) (some ⟨g, 0, none⟩) lC W hW hraw)
        rw [arrL_len] at hCA
        by_cases ho : ovS 8 cs (cs.length + 1) < 0
        · have hsr := arr_sizeR (s := 8) (cs := cs) (by omega) (by omega) ho
          rw [if_pos ho] at hchk
          have hSA := Lib.hid (fun W hW => sizeR_any (arrL 8 cs) (some ⟨g, 0, none⟩) lC ((cs.length : Int) + 1) W hW hraw)
          rw [arrL_len, hsr] at hSA
          rw [hchk] at hCA
          have f0 : decide (0 ≤ ovS 8 cs (cs.length + 1)) = false := decide_eq_false (by omega)
          clear hsr hchk
          generalize ovS 8 cs (cs.length + 1) = ovv at *
          generalize szS 8 cs cs.length = szz at *
          go_wp2_with fail
          refine (hCA.out _ hT).mono ?_
          rintro e w2 ⟨rfl, hk2⟩
          go_wp2_with fail
          refine (hSA.out _ (hT.kept hk2)).mono ?_
          rintro e w3 ⟨rfl, hk3⟩
          go_wp2_with fail
          go_ret
          exact ⟨rfl, (hK.trans hk2 (fun _ _ h => h)).trans hk3 (fun _ _ h => h)⟩
        · rw [if_neg ho] at hchk
          rw [hchk] at hCA
          have f0 : decide (0 ≤ ovS 8 cs (cs.length + 1)) = true := decide_eq_true (by omega)
          clear hchk
          generalize ovS 8 cs (cs.length + 1) = ovv at *
          generalize szS 8 cs cs.length = szz at *
          go_wp2_with fail
          refine (hCA.out _ hT).mono ?_
          rintro e w2 ⟨rfl, hk2⟩
          go_wp2_with fail
          go_ret
          exact ⟨rfl, hK.trans hk2 (fun _ _ h => h)⟩
      case pos =>
        obtain ⟨c, hc⟩ : ∃ c, cs[i]? = some c := ⟨_, List.getElem?_eq_getElem hlt⟩
        obtain ⟨gc, oc, rfl, hgc, hcc0⟩ := hin i c hc
        have hcc : wr.cell? ⟨gc, oc + i, none⟩ = some (.int .u8 (c.toNat : Int)) := by rw [hK.cell (p := ⟨gc, oc + i, none⟩) hgc (fun h => h)]; exact hcc0
        have hc256 := c.toNat_lt
        have hgd : cs.getD i 0 = c := by rw [List.getD_eq_getElem?_getD, hc]; rfl
        have hsn : szS 8 cs (i + 1) = min (szS 8 cs i * (c.toNat : Int)) 65537 := by simp only [szS, hgd]
        have hmul0 : 0 ≤ szS 8 cs i * (c.toNat : Int) := Int.mul_nonneg hrg.1 (Int.natCast_nonneg _)
        have hmul1 : szS 8 cs i * (c.toNat : Int) ≤ 65537 * 255 := Int.mul_le_mul hrg.2 (by omega) (Int.natCast_nonneg _) (by omega)
        have hon := ovS_next (s := 8) (cs := cs) (i + 1)
        have hop : ovP 8 cs (i + 1) = decide (65536 < szS 8 cs (i + 1)) := rfl
        have hanx := arr_next (s := 8) hc
        have HL := Lib.hid hlen
        have HANX := Lib.hid hanx
        clear hlen hgd hanx
        generalize hss1 : szS 8 cs (i + 1) = ss1 at *
        generalize hss : szS 8 cs i = ss at *
        generalize hoo1 : ovS 8 cs (i + 1 + 1) = oo1 at *
        generalize hoo : ovS 8 cs (i + 1) = oo at *
        have Hss1 := Lib.hid hss1
        have Hss := Lib.hid hss
        have Hoo1 := Lib.hid hoo1
        have Hoo := Lib.hid hoo
        have HSN := Lib.hid hsn
        have HON := Lib.hid hon
        have HOP := Lib.hid hop
        clear hss1 hss hoo1 hoo hsn hon hop
        by_cases hbig : 65536 < ss * (c.toNat : Int)
        · have hs1 : ss1 = 65537 := by have := HSN.out; omega
          have hp1 : ovP 8 cs (i + 1) = true := by rw [HOP.out]; exact decide_eq_true (by omega)
          by_cases hneg : oo < 0
          · have ho1 : oo1 = (i : Int) + 1 + 1 := by have h := HON.out; rw [if_pos hneg, hp1, if_pos rfl] at h; omega
            have HS1 := Lib.hid hs1
            have HO1 := Lib.hid ho1
            clear hs1 ho1 hp1
            go_wp2_with (at_builtin; refine wpList_pushG (w := wr) rfl (.tmp 30) (.tmp 39) 22 rfl Tryd.underlying22 hI0 hI1 hI2 hI3 rfl (by omega) (.slice lA (i + 1) lC) ((arrL 8 (cs.take i)).map rowT) (rowT (arrT i c)) rfl rfl hS rfl (by simp [rowT, arrT, Value.oneCell']) (by rw [HL.out]; omega) (by omega) ?_; intro g5 cap5 w5 hS5 hk5 hg5; rw [HL.out] at hS5 ⊢; have hK5 : Kept (fun _ => False) w w5 := hK.trans hk5 (fun k hk e => by have := hown k e; omega); have hcc5 : w5.cell? ⟨gc, oc + i, none⟩ = some (.int .u8 (c.toNat : Int)) := (by rw [hK5.cell (p := ⟨gc, oc + i, none⟩) hgc (fun h => h)]; exact hcc0))
            have hS6 : Sg w5 38 7 (.slice (some ⟨g5, 0, none⟩) (i + 1 + 1) cap5) ((arrL 8 (cs.take (i + 1))).map rowT) := by rw [HANX.out, List.map_append]; exact hS5
            have hown5 : ∀ g, (Value.slice (some ⟨g5, 0, none⟩) (i + 1 + 1) cap5).ownBlock = some g → w.heap.size ≤ g := fun g' hg' => by
              simp only [Value.ownBlock, Option.some.injEq] at hg'
              subst hg'
              rcases hg5 with e | e
              · exact hown _ e
              · have := hK.size
                omega
            go_roundw
            case rel => exact ⟨i + 1, by go_num, by rw [Hss1.out, HS1.out], by rw [Hoo1.out, HO1.out], by omega, hS6, hown5, hK5⟩
            case measure => simp [intOf]; omega
          · have ho1 : oo1 = oo := by have h := HON.out; rw [if_neg hneg] at h; exact h
            have HS1 := Lib.hid hs1
            have HO1 := Lib.hid ho1
            clear hs1 ho1 hp1
            go_wp2_with (at_builtin; refine wpList_pushG (w := wr) rfl (.tmp 30) (.tmp 39) 22 rfl Tryd.underlying22 hI0 hI1 hI2 hI3 rfl (by omega) (.slice lA (i + 1) lC) ((arrL 8 (cs.take i)).map rowT) (rowT (arrT i c)) rfl rfl hS rfl (by simp [rowT, arrT, Value.oneCell']) (by rw [HL.out]; omega) (by omega) ?_; intro g5 cap5 w5 hS5 hk5 hg5; rw [HL.out] at hS5 ⊢; have hK5 : Kept (fun _ => False) w w5 := hK.trans hk5 (fun k hk e => by have := hown k e; omega); have hcc5 : w5.cell? ⟨gc, oc + i, none⟩ = some (.int .u8 (c.toNat : Int)) := (by rw [hK5.cell (p := ⟨gc, oc + i, none⟩) hgc (fun h => h)]; exact hcc0))
            have hS6 : Sg w5 38 7 (.slice (some ⟨g5, 0, none⟩) (i + 1 + 1) cap5) ((arrL 8 (cs.take (i + 1))).map rowT) := by rw [HANX.out, List.map_append]; exact hS5
            have hown5 : ∀ g, (Value.slice (some ⟨g5, 0, none⟩) (i + 1 + 1) cap5).ownBlock = some g → w.heap.size ≤ g := fun g' hg' => by
              simp only [Value.ownBlock, Option.some.injEq] at hg'
              subst hg'
              rcases hg5 with e | e
              · exact hown _ e
              · have := hK.size
                omega
            go_roundw
            case rel => exact ⟨i + 1, by go_num, by rw [Hss1.out, HS1.out], by rw [Hoo1.out, HO1.out], by omega, hS6, hown5, hK5⟩
            case measure => simp [intOf]; omega
        · have hs1 : ss1 = ss * (c.toNat : Int) := by have := HSN.out; omega
          have hp1 : ovP 8 cs (i + 1) = false := by rw [HOP.out]; exact decide_eq_false (by omega)
          have ho1 : oo1 = if oo < 0 then -1 else oo := by have h := HON.out; rw [hp1] at h; simpa using h
          have ho2 : oo1 = oo := by
            rw [ho1]
            split
            · have := Hoo.out
              unfold ovS at this
              cases hf : firstF (ovP 8 cs) (i + 1) with
              | none => rw [hf] at this; exact this
              | some j => rw [hf] at this; simp only at this; omega
            · rfl
          have HS1 := Lib.hid hs1
          have HO1 := Lib.hid ho2
          clear hs1 ho1 hp1 ho2
          go_wp2_with (at_builtin; refine wpList_pushG (w := wr) rfl (.tmp 30) (.tmp 39) 22 rfl Tryd.underlying22 hI0 hI1 hI2 hI3 rfl (by omega) (.slice lA (i + 1) lC) ((arrL 8 (cs.take i)).map rowT) (rowT (arrT i c)) rfl rfl hS rfl (by simp [rowT, arrT, Value.oneCell']) (by rw [HL.out]; omega) (by omega) ?_; intro g5 cap5 w5 hS5 hk5 hg5; rw [HL.out] at hS5 ⊢; have hK5 : Kept (fun _ => False) w w5 := hK.trans hk5 (fun k hk e => by have := hown k e; omega); have hcc5 : w5.cell? ⟨gc, oc + i, none⟩ = some (.int .u8 (c.toNat : Int)) := (by rw [hK5.cell (p := ⟨gc, oc + i, none⟩) hgc (fun h => h)]; exact hcc0))
          have hS6 : Sg w5 38 7 (.slice (some ⟨g5, 0, none⟩) (i + 1 + 1) cap5) ((arrL 8 (cs.take (i + 1))).map rowT) := by rw [HANX.out, List.map_append]; exact hS5
          have hown5 : ∀ g, (Value.slice (some ⟨g5, 0, none⟩) (i + 1 + 1) cap5).ownBlock = some g → w.heap.size ≤ g := fun g' hg' => by
            simp only [Value.ownBlock, Option.some.injEq] at hg'
            subst hg'
            rcases hg5 with e | e
            · exact hown _ e
            · have := hK.size
              omega
          go_roundw
          case rel => exact ⟨i + 1, by go_num, by rw [Hss1.out, HS1.out], by rw [Hoo1.out, HO1.out], by omega, hS6, hown5, hK5⟩
          case measure => simp [intOf]; omega

end Go.Proofs.YtmgdjiplpfeoiaaDoor
