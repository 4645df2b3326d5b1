import Derived.Test.YtdchmelgaljpfaaGreatJt
set_option linter.unusedSimpArgs false
set_option linter.unusedVariables false
namespace Go.Proofs.YtdchmelgaljpfaaGreat
open Go.RowKit

/-! ### the document's and the program's slots -/
theorem one_eq {l : List In} {i : Nat} {x : In} (hi : i < l.length) (h : InOk x) : oneC l i x = wrongC l i x := by
  unfold oneC wrongC
  by_cases hk : knownB x = false
  · rw [if_pos hk, if_pos hk]
  rw [if_neg hk, if_neg hk]
  have hk : knownB x = true := by simpa using hk
  split
  · rfl
  split
  · rfl
  unfold restR restC
  rw [names_eq h hk, helper_eq h hk]
  have hc : callR l i x = callC l ((i : Int) + 1 + x.imm) := by
    unfold callR callC toR
    by_cases h1 : (i : Int) + 1 + x.imm < 0
    · rw [if_pos h1, if_pos (by omega), if_pos (by omega)]
    rw [if_neg h1]
    by_cases h2 : (l.length : Int) ≤ (i : Int) + 1 + x.imm
    · rw [if_pos h2, if_pos (by omega)]
      split
      · rfl
      · rfl
    · rw [if_neg h2]
      split
      · rfl
      · rfl
  rw [hc]
  by_cases h133 : x.op = 133
  · have hs : x.src ≤ 1 := by
      unfold knownB jumpB wholeJ clsI codeI xB at hk
      rw [h133] at hk
      simp at hk
      omega
    have hs0 := h.src
    unfold isCallB
    rw [h133]
    rcases (by omega : x.src = 0 ∨ x.src = 1) with e | e
    · rw [e]
      simp
    · rw [e]
      simp
  · have h1 : (x.op == 133) = false := by simpa using h133
    rw [h1]
    simp

/-! ### where subprograms begin -/
def markL (l : List In) : Nat → List Bool
  | 0 => (List.replicate l.length false).set 0 true
  | i + 1 => match tgtC l i with | some t => (markL l i).set t.toNat true | none => markL l i
theorem mark_len (l : List In) : ∀ n, (markL l n).length = l.length
  | 0 => by simp [markL]
  | n + 1 => by
    unfold markL
    split
    · rw [List.length_set, mark_len l n]
    · exact mark_len l n
theorem mark_iff {l : List In} (h : slotsC l = 0) : ∀ (n k : Nat), (markL l n)[k]? = some true ↔ k < l.length ∧ (k = 0 ∨ ∃ j, j < n ∧ tgtC l j = some (k : Int))
  | 0, k => by
    unfold markL
    rw [List.getElem?_set]
    by_cases hk : k < l.length
    · by_cases h0 : k = 0
      · subst h0
        simp [hk]
      · rw [if_neg (fun e => h0 e.symm), List.getElem?_replicate]
        simp [hk, h0]
    · have hl : l.length ≤ k := by omega
      by_cases h0 : k = 0
      · subst h0
        have h0 : l = [] := List.eq_nil_of_length_eq_zero (by omega)
        simp [h0]
      · rw [if_neg (fun e => h0 e.symm), List.getElem?_replicate]
        simp [hk]
  | n + 1, k => by
    unfold markL
    cases ht : tgtC l n with
    | none =>
      simp only
      rw [mark_iff h n k]
      constructor
      · rintro ⟨h1, h2 | ⟨j, h3, h4⟩⟩
        · exact ⟨h1, .inl h2⟩
        · exact ⟨h1, .inr ⟨j, by omega, h4⟩⟩
      · rintro ⟨h1, h2 | ⟨j, h3, h4⟩⟩
        · exact ⟨h1, .inl h2⟩
        · rcases Nat.eq_or_lt_of_le (Nat.le_of_lt_succ h3) with rfl | h5
          · rw [ht] at h4
            cases h4
          · exact ⟨h1, .inr ⟨j, h5, h4⟩⟩
    | some t =>
      simp only
      obtain ⟨r1, r2, _⟩ := tgt_rng h ht
      rw [List.getElem?_set, mark_len]
      by_cases he : t.toNat = k
      · rw [if_pos he, if_pos (by omega)]
        simp only [true_iff]
        exact ⟨by omega, .inr ⟨n, by omega, by rw [ht]; congr 1; omega⟩⟩
      · rw [if_neg he, mark_iff h n k]
        constructor
        · rintro ⟨h1, h2 | ⟨j, h3, h4⟩⟩
          · exact ⟨h1, .inl h2⟩
          · exact ⟨h1, .inr ⟨j, by omega, h4⟩⟩
        · rintro ⟨h1, h2 | ⟨j, h3, h4⟩⟩
          · exact ⟨h1, .inl h2⟩
          · rcases Nat.eq_or_lt_of_le (Nat.le_of_lt_succ h3) with rfl | h5
            · rw [ht] at h4
              injection h4 with h4
              omega
            · exact ⟨h1, .inr ⟨j, h5, h4⟩⟩
def outL (m : List Bool) (n : Nat) : List Int := (List.range n).filterMap (fun (k : Nat) => if m[k]? = some true then some (k : Int) else none)
theorem out_succ (m : List Bool) (n : Nat) (b : Bool) (h : m[n]? = some b) : outL m (n + 1) = outL m n ++ (if b = true then [(n : Int)] else []) := by
  unfold outL
  rw [List.range_succ, List.filterMap_append]
  cases b <;> simp [h]
theorem out_len (m : List Bool) (n : Nat) : (outL m n).length ≤ n := by
  unfold outL
  exact Nat.le_trans (List.length_filterMap_le _ _) (by simp)
theorem starts_eq {l : List In} (h : slotsC l = 0) : outL (markL l l.length) l.length = beginsL l := by
  obtain ⟨b1, b2, b3⟩ := begins_ok h
  refine rising_eq ?_ b1 fun t => ?_
  · unfold outL
    refine List.Pairwise.filterMap _ ?_ List.pairwise_lt_range
    intro a b hab t ht u hu
    split at ht
    · split at hu
      · cases ht
        cases hu
        exact Int.ofNat_lt.2 hab
      · cases hu
    · cases ht
  · have hm : t ∈ outL (markL l l.length) l.length ↔ ∃ k : Nat, k < l.length ∧ (markL l l.length)[k]? = some true ∧ (k : Int) = t := by
      unfold outL
      rw [List.mem_filterMap]
      constructor
      · rintro ⟨k, hk, he⟩
        split at he
        · rename_i hh
          cases he
          exact ⟨k, List.mem_range.1 hk, hh, rfl⟩
        · cases he
      · rintro ⟨k, hk, hh, rfl⟩
        exact ⟨k, List.mem_range.2 hk, by rw [if_pos hh]⟩
    rw [hm, b2]
    constructor
    · rintro ⟨k, hk, hh, rfl⟩
      rcases ((mark_iff h _ _).1 hh).2 with rfl | ⟨j, hj, e⟩
      · exact .inl rfl
      · exact .inr ⟨j, hj, e⟩
    · intro ht
      obtain ⟨c1, c2, c3⟩ := b3 t ((b2 t).2 ht)
      refine ⟨t.toNat, by omega, (mark_iff h _ _).2 ⟨by omega, ?_⟩, by omega⟩
      rcases ht with rfl | ⟨j, hj, e⟩
      · exact .inl rfl
      · exact .inr ⟨j, hj, by rw [e]; congr 1; omega⟩

end Go.Proofs.YtdchmelgaljpfaaGreat
set_option linter.unusedSimpArgs false
set_option linter.unusedVariables false
namespace Go.Proofs.YtdchmelgaljpfaaGreat
open Go.RowKit

/-! ### Starts -/
theorem known_of {l : List In} (hz : slotsC l = 0) {i : Nat} {x : In} (hx : l[i]? = some x) (hs : (secL l)[i]? = some false) : knownB x = true := by
  obtain ⟨_, _, h⟩ := slots_zero hz
  have hw := h i (List.getElem?_eq_some_iff.1 hx).1
  rw [slot_wrong hx hs] at hw
  exact (wrong_rest hw).1
theorem Bls.fwd {w w' : World} {F : Nat → Prop} {v : Value} {B : List Bool} (hk : Kept F w w') (h : Bls w v B) (hf : ∀ g, v.ownBlock = some g → ¬ F g) : Bls w' v B := Sl.kept hk h (fun g hg => hf g hg)
set_option maxHeartbeats 4000000 in
set_option maxRecDepth 100000 in
theorem starts_any (l : List In) (a : Option Addr) (c : Nat) (w : World) (h : Ins w (.slice a l.length c) l) (hok : InsOk l) (hz : slotsC l = 0) :
    Calls Tryz.prog 64 #[.slice a l.length c] w fun e w' => ∃ ov, e = .returned ov ∧ Ints w' ov (beginsL l) ∧ Kept (fun _ => False) w w' ∧ ∀ g, ov.ownBlock = some g → w.heap.size ≤ g := by
  have hlen := hok.len
  obtain ⟨hl1, _, _⟩ := slots_zero hz
  have HSE := Lib.hid (fun W hI => seconds_any l a c W hI hok)
  have HNA := Lib.hid (fun i x W hx => rnames_any x W (hok.at_ (i := i) hx))
  have HTO := Lib.hid (fun i b W hi hb => rto_any a c l.length i b W hi hb)
  have HSEQ := Lib.hid (starts_eq hz)
  obtain ⟨i0, hI0, hI1, hI2, hI3⟩ := info_parts infoB
  go_enter Tryz.func64, Tryz.ntmps64
  go_wp2_with (refine wpList_makeSl (w := w) rfl (.tmp 9) (.tmp 9) 85 rfl (.bool false) rfl Tryz.underlying85 hI0 hI1 hI2 hI3 (by omega) l.length rfl rfl (by omega) ?_; intro w1 hB1 hk1)
  have hB1' : Bls w1 (.slice (some ⟨w.heap.size, 0, none⟩) l.length l.length) (List.replicate l.length false) := by
    unfold Bls
    rw [List.map_replicate]
    exact hB1
  clear hB1
  refine (HSE.out _ (h.kept hk1)).mono ?_
  rintro e w2 ⟨sv, rfl, hS, hk2, hsv⟩
  have hK2 := hk1.trans hk2 (fun _ _ h => h)
  have hB2 := Sl.kept hk2 hB1' (fun _ _ h => h)
  obtain ⟨sg, sc, rfl, hsl, hsg⟩ := Sl.some_ hS (by rw [List.length_map, sec_len]; omega)
  have hgl1 := Sl.lt hB1' w.heap.size rfl
  have hsn : w.heap.size ≠ sg := by
    have := hsv sg rfl
    omega
  rw [List.length_map, sec_len] at *
  have b0 := Bls.cell hB2 (i := 0) (x := false) (by rw [List.getElem?_replicate, if_pos (by omega)])
  have f0 := Sl.frozen hB2 0
  have hB3 := Bls.set hB2 (i := 0) (by rw [List.length_replicate]; omega) true
  have hkS : Kept (fun k => k = w.heap.size) w2 (w2.setCell ⟨w.heap.size, 0, none⟩ (.bool true)) := Kept.setCell (F := fun k => k = w.heap.size) (Kept.refl _ w2) (fun _ => rfl) _
  have hS3 := Bls.fwd hkS hS (fun g hg e => hsn (by rw [← e]; exact (Option.some.inj hg).symm))
  have hK3 : Kept (fun _ => False) w (w2.setCell ⟨w.heap.size, 0, none⟩ (.bool true)) := hK2.setCell (fun h => by simp at h) _
  clear hB2 hB1' hS hkS hK2 hk1 hk2 hsv hgl1
  go_wp2_with fail
  go_loopw [5] (fun iv wr => ∃ i : Nat, iv = .int .i64 i ∧ i ≤ l.length ∧ Bls wr (.slice (some ⟨w.heap.size, 0, none⟩) l.length l.length) (markL l i) ∧ Bls wr (.slice (some ⟨sg, 0, none⟩) l.length sc) (secL l) ∧ Kept (fun _ => False) w wr) (fun iv _ => l.length - (intOf iv).toNat)
  case atStart => exact ⟨0, rfl, by omega, hB3, hS3, hK3⟩
  case round =>
    clear hB3 hS3 hK3 b0 f0
    obtain ⟨i, rfl, hi, hB, hS, hK⟩ := hrel
    by_cases hlt : i < l.length
    case neg =>
      obtain rfl : i = l.length := by omega
      have hml := mark_len l l.length
      have hseq := HSEQ.out
      clear HSEQ hS hsl hsg hlt hi HSE HNA HTO hsn
      generalize hM : markL l l.length = M at *
      clear hM
      have HML := Lib.hid hml
      have HSQ := Lib.hid hseq
      clear hml hseq
      have hnd : decide ((l.length : Int) < l.length) = false := decide_eq_false (by omega)
      go_wp2_with fail
      clear hnd
      go_loopw [6, 7] (fun ov iv w3 => ∃ j : Nat, iv = .int .i64 j ∧ j ≤ l.length ∧ Ints w3 ov (outL M j) ∧ Kept (fun _ => False) wr w3 ∧ ∀ g, ov.ownBlock = some g → wr.heap.size ≤ g) (fun _ iv _ => l.length - (intOf iv).toNat)
      case atStart => exact ⟨0, rfl, by omega, Sl.nil _ _ _, Kept.refl _ _, fun g hg => by simp [Value.ownBlock] at hg⟩
      case round =>
        obtain ⟨j, rfl, hj, hL, hk3, hown⟩ := hrel
        by_cases hjl : j < l.length
        case neg =>
          obtain rfl : j = l.length := by omega
          have hnd : decide ((l.length : Int) < l.length) = false := decide_eq_false (by omega)
          go_wp2_with fail
          go_ret
          exact ⟨_, rfl, by rw [← HSQ.out]; exact hL, hK.trans hk3 (fun _ _ h => h), fun g hg => Nat.le_trans hK.size (hown g hg)⟩
        case pos =>
          obtain ⟨b, hb⟩ : ∃ b, M[j]? = some b := ⟨_, List.getElem?_eq_getElem (by rw [HML.out]; exact hjl)⟩
          have d0 := Bls.cell (Sl.kept hk3 hB (fun _ _ h => h)) hb
          have hgl := Sl.lt (Sl.kept hk3 hB (fun _ _ h => h)) w.heap.size rfl
          have hnx := out_succ M j b hb
          have hol := out_len M j
          have HOWN := Lib.hid hown
          have HNX := Lib.hid hnx
          clear hb hnx hown
          cases b
          case false =>
            go_wp2_with fail
            go_roundw
            case rel => exact ⟨j + 1, by go_num, by omega, by rw [HNX.out]; simpa using hL, hk3, HOWN.out⟩
            case measure => simp [intOf]; omega
          case true =>
            go_wp2_with (at_builtin; refine wpList_pushI (w := wr) rfl (.tmp 54) (.tmp 56) rfl u6 (outL M j) j rfl rfl hL (by omega) ?_; intro v5 w5 hL5 hk5 hw5)
            have hsz := hK.size
            have hsz3 := hk3.size
            have hk5' := hk3.trans hk5 (fun k hk e => by have := HOWN.out k e; omega)
            go_roundw
            case rel => exact ⟨j + 1, by go_num, by omega, by rw [HNX.out]; exact hL5, hk5', fun g hg => (hw5 g hg).elim (HOWN.out g) (fun h => by omega)⟩
            case measure => simp [intOf]; omega
    case pos =>
      obtain ⟨x, hx⟩ : ∃ x, l[i]? = some x := ⟨_, List.getElem?_eq_getElem hlt⟩
      obtain ⟨b, hb⟩ : ∃ b, (secL l)[i]? = some b := ⟨_, List.getElem?_eq_getElem (by rw [sec_len]; omega)⟩
      have d0 := Bls.cell hS hb
      have hmk : markL l (i + 1) = if isCallB x = true ∧ b = false then (markL l i).set ((i : Int) + 1 + x.imm).toNat true else markL l i := by
        have ht : tgtC l i = if isCallB x = true ∧ b = false then some ((i : Int) + 1 + x.imm) else none := by
          unfold tgtC
          rw [hx, hb]
          cases b <;> simp
        show (match tgtC l i with | some t => (markL l i).set t.toNat true | Option.none => markL l i) = _
        rw [ht]
        by_cases hc : isCallB x = true ∧ b = false
        · rw [if_pos hc, if_pos hc]
        · rw [if_neg hc, if_neg hc]
      have hrng : isCallB x = true → b = false → ∃ n : Nat, toR l.length i x.imm = n ∧ (i : Int) + 1 + x.imm = n ∧ n < l.length := by
        intro h1 h2
        subst h2
        obtain ⟨r1, r2, _⟩ := tgt_rng hz (i := i) (t := (i : Int) + 1 + x.imm) (by unfold tgtC; rw [hx, hb]; simp [h1])
        refine ⟨((i : Int) + 1 + x.imm).toNat, ?_, by omega, by omega⟩
        unfold toR
        rw [if_neg (by omega), if_neg (by omega)]
        omega
      have hnm : b = false → namesR x = isCallB x := fun e => names_eq (hok.at_ hx) (known_of hz hx (by rw [hb, e]))
      have him := (hok.at_ hx).imm
      have HN := Lib.hid (fun W => HNA.out i x W hx)
      have HT := Lib.hid (fun W => HTO.out i x.imm W (by omega) ⟨by omega, by omega⟩)
      have HI := Lib.hid (fun W hk => (h.kept (w' := W) hk).at_ hx)
      obtain ⟨g, off, rfl, hg, c0, c1, c2, c3, c4⟩ := (h.kept hK).at_ hx
      have hml := mark_len l i
      have HMK := Lib.hid hmk
      have HRG := Lib.hid hrng
      have HNM := Lib.hid hnm
      clear hmk hrng hnm hx hb h hok hz HSE HNA HTO HSEQ
      cases b
      case true =>
        go_wp2_with fail
        go_roundw
        case rel => exact ⟨i + 1, by go_num, by omega, by rw [HMK.out, if_neg (by simp)]; exact hB, hS, hK⟩
        case measure => simp [intOf]; omega
      case false =>
        have hnm := HNM.out rfl
        rw [hnm] at HN
        clear hnm HNM
        cases hic : isCallB x
        case false =>
          rw [hic] at HN
          go_wp2_with fail
          refine (HN.out _).mono ?_
          rintro e w4 ⟨rfl, hk4⟩
          have hB4 := Sl.kept hk4 hB (fun _ _ h => h)
          have hS4 := Sl.kept hk4 hS (fun _ _ h => h)
          have hK4 := hK.trans hk4 (fun _ _ h => h)
          go_wp2_with fail
          go_roundw
          case rel => exact ⟨i + 1, by go_num, by omega, by rw [HMK.out, if_neg (by simp [hic])]; exact hB4, hS4, hK4⟩
          case measure => simp [intOf]; omega
        case true =>
          rw [hic] at HN
          obtain ⟨n, hn1, hn2, hn3⟩ := HRG.out hic rfl
          have hmk := HMK.out
          rw [if_pos ⟨hic, rfl⟩, hn2, Int.toNat_natCast] at hmk
          have HMK2 := Lib.hid hmk
          clear hmk HMK HRG hic
          rw [hn1] at HT
          clear hn1 hn2
          go_wp2_with fail
          refine (HN.out _).mono ?_
          rintro e w4 ⟨rfl, hk4⟩
          have hB4 := Sl.kept hk4 hB (fun _ _ h => h)
          have hS4 := Sl.kept hk4 hS (fun _ _ h => h)
          have hK4 := hK.trans hk4 (fun _ _ h => h)
          obtain ⟨g', off', hgg, hg', e0, e1, e2, e3, e4⟩ := HI.out _ hK4
          cases hgg
          obtain ⟨bb, hbb⟩ : ∃ bb, (markL l i)[n]? = some bb := ⟨_, List.getElem?_eq_getElem (by rw [hml]; exact hn3)⟩
          have b4 := Bls.cell hB4 hbb
          have f4 := Sl.frozen hB4 n
          have hB5 := Bls.set hB4 (i := n) (by rw [hml]; exact hn3) true
          have hkS : Kept (fun k => k = w.heap.size) w4 (w4.setCell ⟨w.heap.size, n, none⟩ (.bool true)) := Kept.setCell (F := fun k => k = w.heap.size) (Kept.refl _ w4) (fun _ => rfl) _
          have hS5 := Bls.fwd hkS hS4 (fun g hg e => hsn (by rw [← e]; exact (Option.some.inj hg).symm))
          have hK5 : Kept (fun _ => False) w (w4.setCell ⟨w.heap.size, n, none⟩ (.bool true)) := hK4.setCell (fun h => by simp at h) _
          clear hkS hbb hB hS hK hk4 hK4 hB4 hS4
          go_wp2_with (go_at_call 59; refine (HT.out _).mono ?_; rintro e w5 ⟨rfl, rfl⟩)
          go_roundw
          case rel => exact ⟨i + 1, by go_num, by omega, by rw [HMK2.out]; exact hB5, hS5, hK5⟩
          case measure => simp [intOf]; omega

end Go.Proofs.YtdchmelgaljpfaaGreat
