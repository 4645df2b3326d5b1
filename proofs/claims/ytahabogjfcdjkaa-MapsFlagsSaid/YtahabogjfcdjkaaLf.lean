import Derived.Test.YtahabogjfcdjkaaKe
import Derived.Test.YtahabogjfcdjkaaUp
import Derived.Test.YtahabogjfcdjkaaLa
import Derived.Test.YtahabogjfcdjkaaIn
set_option linter.unusedSimpArgs false
set_option linter.unusedVariables false
namespace Go.Proofs.Ytahabogjfcdjkaa
open Go.RowKit

theorem zero256 : Try.zeroCells41 = Array.replicate 256 (.bool false) := by kernel_rfl

/-- 'there': which one-byte keys are in the map -/
def There (w : World) (g : Nat) (E : List (List UInt8 × Int)) : Prop := ∃ cs, Blk w g 41 cs ∧ ∀ b : UInt8, cs[b.toNat]? = some (.bool (lookS E [b]).isSome)
theorem There.kept {F : Nat → Prop} {w w' : World} {g : Nat} {E : List (List UInt8 × Int)} (h : There w g E) (hk : Kept F w w') (hF : ¬ F g) : There w' g E := by
  obtain ⟨cs, hb, hc⟩ := h
  exact ⟨cs, hk.blk hF hb, hc⟩
theorem There.cell {w : World} {g : Nat} {E : List (List UInt8 × Int)} (h : There w g E) (b : UInt8) : w.cell? ⟨g, b.toNat, none⟩ = some (.bool (lookS E [b]).isSome) := by
  obtain ⟨cs, hb, hc⟩ := h
  rw [hb.cell]
  exact hc b

theorem There.frozen {w : World} {g : Nat} {E : List (List UInt8 × Int)} (h : There w g E) (b : UInt8) : w.frozen? ⟨g, b.toNat, none⟩ = false := by
  obtain ⟨cs, hb, hc⟩ := h
  exact hb.frozen _

theorem There.put {w : World} {g : Nat} {E : List (List UInt8 × Int)} (h : There w g E) {k : UInt8} (hk : lookS E [k] = none) (n : Int) : There (w.setCell ⟨g, k.toNat, none⟩ (.bool true)) g (E ++ [([k], n)]) := by
  obtain ⟨cs, hb, hc⟩ := h
  have hlt : k.toNat < cs.size := (Array.getElem?_eq_some_iff.1 (hc k)).1
  refine ⟨_, hb.set_ _ _, fun b => ?_⟩
  by_cases e : b = k
  · subst e
    rw [lookS_app hk]
    simp [lookS, hlt]
  · have hne : k.toNat ≠ b.toNat := fun h => e (UInt8.toNat_inj.1 h).symm
    rw [Array.getElem?_setIfInBounds_ne hne, hc b]
    cases hl : lookS E [b] with
    | some u => rw [lookS_app1 hl]
    | none =>
      rw [lookS_app hl]
      have : ¬ k = b := fun h => e h.symm
      simp [lookS, this]

set_option maxHeartbeats 4000000 in
set_option maxRecDepth 100000 in
theorem walk_flags (en : Int) (ka fa : Option Addr) (kc fc : Nat) (kl fl : List UInt8) (w : World) (hk : InB w ka kl) (hf : InB w fa fl) :
    Calls Try.prog 4 #[.int .i64 en, .slice ka kl.length kc, .slice fa fl.length fc] w fun e w' => e = .returned (.bool true) ∧ Kept (fun _ => False) w w' := by
  by_cases h1 : en < 1
  · have h1' : decide (en < 1) = true := decide_eq_true h1
    go_enter Try.func4, Try.ntmps4
    go_wp2_with fail
    refine (known_any w).mono ?_
    rintro e w1 ⟨rfl, hk1⟩
    go_wp2_with fail
    go_ret
    exact ⟨rfl, hk1⟩
  by_cases h2 : 8 < en
  · go_enter Try.func4, Try.ntmps4
    go_wp2_with fail
    refine (known_any w).mono ?_
    rintro e w1 ⟨rfl, hk1⟩
    go_wp2_with fail
    go_ret
    exact ⟨rfl, hk1⟩
  by_cases h3 : 40 < kl.length
  · go_enter Try.func4, Try.ntmps4
    go_wp2_with fail
    refine (known_any w).mono ?_
    rintro e w1 ⟨rfl, hk1⟩
    go_wp2_with fail
    go_ret
    exact ⟨rfl, hk1⟩
  go_enter Try.func4, Try.ntmps4
  go_wp2_with fail
  refine (known_any w).mono ?_
  rintro e w1 ⟨rfl, hk1⟩
  go_wp2_with fail
  refine (memNew_any w1).mono ?_
  rintro e w2 ⟨rfl, hm2, hbl2, hk2, hz2⟩
  go_wp2_with fail
  refine (new_hash ⟨2, 1, 1, en, false, 0⟩ w1.heap.size (.slice none 0 0) [] w2 hm2 rfl (defHash (by decide) (by decide) (by omega) (by omega))).mono ?_
  rintro e w3 ⟨q, m, rfl, hM3, hq, hm, hk3⟩
  have hK3 : Kept (fun _ => False) w w3 := (hk1.trans hk2 (fun _ _ h => h)).trans hk3 (fun _ _ h => h)
  go_wp2_with fail
  rw [zero256]
  have hkA : Kept (fun _ => False) w3 (w3.alloc (.cells (Array.replicate 256 (.bool false)) 41)) := (Kept.refl _ w3).alloc _
  have hth : There (w3.alloc (.cells (Array.replicate 256 (.bool false)) 41)) w3.heap.size [] := ⟨_, Blk.new w3 _ _, fun b => by have := b.toNat_lt; rw [Array.getElem?_replicate, if_pos (by omega)]; rfl⟩
  have hM4 := hM3.quiet hkA
  have hK4 := hK3.trans hkA (fun _ _ h => h)
  have htb : ¬ fpMp (⟨q, w1.heap.size, m, .slice none 0 0, .slice none 0 0⟩ : Loc) [] w3.heap.size := fun h => absurd (hM3.lt h) (Nat.lt_irrefl _)
  have hfp : ∀ k, fpMp (⟨q, w1.heap.size, m, .slice none 0 0, .slice none 0 0⟩ : Loc) [] k → w.heap.size ≤ k := fun k hk => by
    have := hk1.size
    have := hk2.size
    rcases hk with h | h | h | h
    · simp only at h; omega
    · simp only at h; omega
    · simp [Value.ownBlock] at h
    · rw [hbl2] at h
      have := List.mem_singleton.1 h
      omega
  have hkb : w.heap.size ≤ w3.heap.size := hK3.size
  generalize w3.alloc (.cells (Array.replicate 256 (.bool false)) 41) = w4 at *
  generalize w3.heap.size = tb at *
  generalize w1.heap.size = mp at *
  clear hM3 hk1 hm2 hbl2 hk2 hz2 hk3 hK3 hkA hq hm
  go_loopw [11, 10] (fun iv nv wr => ∃ (i : Nat) (v1 : Value) (E : List (List UInt8 × Int)) (L1 : List Rg), iv = .int .i64 i ∧ nv = .int .i64 E.length ∧ i ≤ kl.length ∧ L1.length ≤ i ∧ (E.length : Int) ≤ en ∧
    Mp wr ⟨q, mp, m, .slice none 0 0, v1⟩ ⟨⟨2, 1, 1, en, false, 0⟩, E, []⟩ L1 ∧ There wr tb E ∧ ¬ fpMp (⟨q, mp, m, .slice none 0 0, v1⟩ : Loc) L1 tb ∧ (∀ k, fpMp (⟨q, mp, m, .slice none 0 0, v1⟩ : Loc) L1 k → w.heap.size ≤ k) ∧ Kept (fun _ => False) w wr) (fun iv _ _ => kl.length - (intOf iv).toNat)
  case atStart => exact ⟨0, .slice none 0 0, [], [], rfl, rfl, Nat.zero_le _, Nat.zero_le _, by simp; omega, hM4, hth, htb, hfp, hK4⟩
  case round =>
    clear hM4 hth htb hfp hK4
    obtain ⟨i, v1, E, L1, rfl, rfl, hi, hL, hE, hM, hth, htb, hfp, hK⟩ := hrel
    by_cases hlt : i < kl.length
    case neg =>
      obtain rfl : i = kl.length := by omega
      go_wp2_with fail
      refine (keys_any _ _ _ wr hM (by show (2 : Int) ≠ 3; decide)).mono ?_
      rintro e w5 ⟨ov, R, rfl, hS, _, hperm, _, _, hk5⟩
      have hK5 := hK.trans hk5 (fun _ _ h => h)
      obtain ⟨A, c, hov⟩ := hS.any
      have hRl : (R.map kcell).length = E.length := by
        have := hperm.length_eq
        simpa using this
      rw [hRl] at hov
      subst hov
      go_wp2_with fail
      go_ret
      exact ⟨rfl, hK5⟩
    case pos =>
      obtain ⟨kb, hkb⟩ : ∃ b, kl[i]? = some b := ⟨_, List.getElem?_eq_getElem hlt⟩
      obtain ⟨kg, ko, rfl, hkg, hkc⟩ := (hk.kept hK) i kb hkb
      by_cases hfl : i < fl.length
      · obtain ⟨fb, hfb⟩ : ∃ b, fl[i]? = some b := ⟨_, List.getElem?_eq_getElem hfl⟩
        obtain ⟨fg, fo, rfl, hfg, hfc⟩ := (hf.kept hK) i fb hfb
        go_wp2_with fail
        have hkk : (kb.toNat : Int) % 12 = (((UInt8.ofNat (kb.toNat % 12)).toNat : Nat) : Int) := by rw [UInt8.toNat_ofNat']; omega
        rw [hkk]
        generalize UInt8.ofNat (kb.toNat % 12) = kk at *
        have hkB : Kept (fun _ => False) wr ((wr.alloc (.cells #[.int .u8 (kk.toNat : Int)] 5)).alloc (.cells #[.int .u8 (kk.toNat : Int)] 5)) := ((Kept.refl _ wr).alloc _).alloc _
        have hkey := (By.ofNew wr [kk] 1 (Nat.le_refl 1)).alloc (.cells #[.int .u8 (kk.toNat : Int)] 5)
        have hval := byNew2 wr (.cells #[.int .u8 (kk.toNat : Int)] 5) [kk] 1 (Nat.le_refl 1)
        have hkx : ∀ g, (Value.slice (some ⟨wr.heap.size, 0, none⟩) 1 1).ownBlock = some g → g ∉ blM mp v1 L1 := fun g hg h => by
          simp only [Value.ownBlock, Option.some.injEq] at hg
          have := hM.mem.lt h
          omega
        have hMB := hM.quiet hkB
        have hthB := hth.kept hkB (fun h => h)
        have hKB := hK.trans hkB (fun _ _ h => h)
        have htbl : tb < wr.heap.size := by obtain ⟨cs, hb, _⟩ := hth; exact hb.lt
        have htbB : tb < ((wr.alloc (.cells #[.int .u8 (kk.toNat : Int)] 5)).alloc (.cells #[.int .u8 (kk.toNat : Int)] 5)).heap.size := Nat.lt_of_lt_of_le htbl hkB.size
        have hU := fun f => update_all (⟨q, mp, m, .slice none 0 0, v1⟩ : Loc) (⟨⟨2, 1, 1, en, false, 0⟩, E, []⟩ : MS) L1 _ _ [kk] [kk] f _ hMB hkey hkx hval rfl rfl (Nat.zero_le _) Nat.one_pos (by simp) (by omega) (by show E.length < 1000000; omega)
        clear hkey hval hkx
        generalize (wr.alloc (.cells #[.int .u8 (kk.toNat : Int)] 5)).alloc (.cells #[.int .u8 (kk.toNat : Int)] 5) = wB at *
        have hf4 : (fb.toNat : Int) % 4 = 0 ∨ (fb.toNat : Int) % 4 = 1 ∨ (fb.toNat : Int) % 4 = 2 ∨ (fb.toNat : Int) % 4 = 3 := by omega
        rcases hf4 with h4 | h4 | h4 | h4
        all_goals rw [h4]
        · cases hlk : lookS E [kk] with
          | some id =>
            refine (hU 0).mono ?_
            rintro e w5 ⟨v5, L5, he, hM5, hL5, hF5, hk5⟩
            have er : e = .returned (.int .i64 0) := he.trans (congrArg (fun z => Ending.returned (.int .i64 z)) (by simp only [hlk]; unfold refC; simp))
            subst er
            clear he hU
            have hth5 := hthB.kept hk5 htb
            have hcell5 := hth5.cell kk
            rw [hlk] at hcell5
            have hfz5 := hth5.frozen kk
            simp only [Option.isSome_some] at hcell5
            have hK5 := hKB.trans hk5 (fun k hk h => absurd (hfp k h) (by omega))
            have hfp5 : ∀ k, fpMp (⟨q, mp, m, .slice none 0 0, v5⟩ : Loc) L5 k → w.heap.size ≤ k := fun k hk => by
              rcases hF5 k hk with h | h
              · exact hfp k h
              · exact Nat.le_trans hKB.size h
            have htb5 : ¬ fpMp (⟨q, mp, m, .slice none 0 0, v5⟩ : Loc) L5 tb := fun h => by
              rcases hF5 tb h with h | h
              · exact htb h
              · omega
            have hS5 : upS (⟨⟨2, 1, 1, en, false, 0⟩, E, []⟩ : MS) L1.length [kk] 0 = ⟨⟨2, 1, 1, en, false, 0⟩, E, []⟩ := by
              unfold upS
              simp only [hlk]
              simp
            rw [hS5] at hM5
            have hlen5 : L5.length = L1.length := by
              have := congrArg List.length hL5
              unfold upC at this
              simp only [hlk] at this
              split at this <;> simpa using this
            go_wp2_with fail
            exact ⟨⟨i + 1, v5, E, L5, by go_num, by first | rfl | rw [hfull], by omega, by omega, hE, hM5, hth5, htb5, hfp5, hK5⟩, by simp [intOf]; omega⟩
          | none =>
            by_cases hfull : (E.length : Int) = en
            · refine (hU 0).mono ?_
              rintro e w5 ⟨v5, L5, he, hM5, hL5, hF5, hk5⟩
              have er : e = .returned (.int .i64 93) := he.trans (congrArg (fun z => Ending.returned (.int .i64 z)) (by simp only [hlk]; unfold refC; simp; omega))
              subst er
              clear he hU
              have hth5 := hthB.kept hk5 htb
              have hcell5 := hth5.cell kk
              rw [hlk] at hcell5
              have hfz5 := hth5.frozen kk
              simp only [Option.isSome_none] at hcell5
              have hK5 := hKB.trans hk5 (fun k hk h => absurd (hfp k h) (by omega))
              have hfp5 : ∀ k, fpMp (⟨q, mp, m, .slice none 0 0, v5⟩ : Loc) L5 k → w.heap.size ≤ k := fun k hk => by
                rcases hF5 k hk with h | h
                · exact hfp k h
                · exact Nat.le_trans hKB.size h
              have htb5 : ¬ fpMp (⟨q, mp, m, .slice none 0 0, v5⟩ : Loc) L5 tb := fun h => by
                rcases hF5 tb h with h | h
                · exact htb h
                · omega
              have hS5 : upS (⟨⟨2, 1, 1, en, false, 0⟩, E, []⟩ : MS) L1.length [kk] 0 = ⟨⟨2, 1, 1, en, false, 0⟩, E, []⟩ := by
                unfold upS
                simp only [hlk]
                rw [if_pos (by unfold refC; simp; try omega)]
              rw [hS5] at hM5
              have hlen5 : L5.length = L1.length := by
                have := congrArg List.length hL5
                unfold upC at this
                simp only [hlk] at this
                rw [if_pos (by unfold refC; simp; try omega)] at this; simpa using this
              go_wp2_with fail
              exact ⟨⟨i + 1, v5, E, L5, by go_num, by first | rfl | rw [hfull], by omega, by omega, hE, hM5, hth5, htb5, hfp5, hK5⟩, by simp [intOf]; omega⟩
            · refine (hU 0).mono ?_
              rintro e w5 ⟨v5, L5, he, hM5, hL5, hF5, hk5⟩
              have er : e = .returned (.int .i64 0) := he.trans (congrArg (fun z => Ending.returned (.int .i64 z)) (by simp only [hlk]; unfold refC; simp; omega))
              subst er
              clear he hU
              have hth5 := hthB.kept hk5 htb
              have hcell5 := hth5.cell kk
              rw [hlk] at hcell5
              have hfz5 := hth5.frozen kk
              simp only [Option.isSome_none] at hcell5
              have hK5 := hKB.trans hk5 (fun k hk h => absurd (hfp k h) (by omega))
              have hfp5 : ∀ k, fpMp (⟨q, mp, m, .slice none 0 0, v5⟩ : Loc) L5 k → w.heap.size ≤ k := fun k hk => by
                rcases hF5 k hk with h | h
                · exact hfp k h
                · exact Nat.le_trans hKB.size h
              have htb5 : ¬ fpMp (⟨q, mp, m, .slice none 0 0, v5⟩ : Loc) L5 tb := fun h => by
                rcases hF5 tb h with h | h
                · exact htb h
                · omega
              have hS5 : upS (⟨⟨2, 1, 1, en, false, 0⟩, E, []⟩ : MS) L1.length [kk] 0 = ⟨⟨2, 1, 1, en, false, 0⟩, E ++ [([kk], (L1.length : Int) + 1)], []⟩ := by
                unfold upS
                simp only [hlk]
                rw [if_neg (by unfold refC; simp; omega), if_neg (by simp)]
              rw [hS5] at hM5
              have hlen5 : L5.length = L1.length + 1 := by
                have := congrArg List.length hL5
                unfold upC at this
                simp only [hlk] at this
                rw [if_neg (by unfold refC; simp; omega)] at this
                simpa using this
              go_wp2_with fail
              have hkS : Kept (fun k => k = tb) w5 (w5.setCell ⟨tb, kk.toNat, none⟩ (.bool true)) := (Kept.refl (fun k => k = tb) w5).setCell (p := ⟨tb, kk.toNat, none⟩) (fun _ => rfl) _
              exact ⟨⟨i + 1, v5, E ++ [([kk], (L1.length : Int) + 1)], L5, by go_num, by simp, by omega, by omega, by simp; omega, hM5.kept hkS (fun k hk e => htb5 (by have e : k = tb := e; rw [← e]; exact hk)), hth5.put hlk _, htb5, hfp5, hK5.trans hkS (fun k hk e => by have e : k = tb := e; omega)⟩, by simp [intOf]; omega⟩
        · cases hlk : lookS E [kk] with
          | some id =>
            refine (hU 1).mono ?_
            rintro e w5 ⟨v5, L5, he, hM5, hL5, hF5, hk5⟩
            have er : e = .returned (.int .i64 94) := he.trans (congrArg (fun z => Ending.returned (.int .i64 z)) (by simp only [hlk]; unfold refC; simp))
            subst er
            clear he hU
            have hth5 := hthB.kept hk5 htb
            have hcell5 := hth5.cell kk
            rw [hlk] at hcell5
            have hfz5 := hth5.frozen kk
            simp only [Option.isSome_some] at hcell5
            have hK5 := hKB.trans hk5 (fun k hk h => absurd (hfp k h) (by omega))
            have hfp5 : ∀ k, fpMp (⟨q, mp, m, .slice none 0 0, v5⟩ : Loc) L5 k → w.heap.size ≤ k := fun k hk => by
              rcases hF5 k hk with h | h
              · exact hfp k h
              · exact Nat.le_trans hKB.size h
            have htb5 : ¬ fpMp (⟨q, mp, m, .slice none 0 0, v5⟩ : Loc) L5 tb := fun h => by
              rcases hF5 tb h with h | h
              · exact htb h
              · omega
            have hS5 : upS (⟨⟨2, 1, 1, en, false, 0⟩, E, []⟩ : MS) L1.length [kk] 1 = ⟨⟨2, 1, 1, en, false, 0⟩, E, []⟩ := by
              unfold upS
              simp only [hlk]
              simp
            rw [hS5] at hM5
            have hlen5 : L5.length = L1.length := by
              have := congrArg List.length hL5
              unfold upC at this
              simp only [hlk] at this
              split at this <;> simpa using this
            go_wp2_with fail
            exact ⟨⟨i + 1, v5, E, L5, by go_num, by first | rfl | rw [hfull], by omega, by omega, hE, hM5, hth5, htb5, hfp5, hK5⟩, by simp [intOf]; omega⟩
          | none =>
            by_cases hfull : (E.length : Int) = en
            · refine (hU 1).mono ?_
              rintro e w5 ⟨v5, L5, he, hM5, hL5, hF5, hk5⟩
              have er : e = .returned (.int .i64 93) := he.trans (congrArg (fun z => Ending.returned (.int .i64 z)) (by simp only [hlk]; unfold refC; simp; omega))
              subst er
              clear he hU
              have hth5 := hthB.kept hk5 htb
              have hcell5 := hth5.cell kk
              rw [hlk] at hcell5
              have hfz5 := hth5.frozen kk
              simp only [Option.isSome_none] at hcell5
              have hK5 := hKB.trans hk5 (fun k hk h => absurd (hfp k h) (by omega))
              have hfp5 : ∀ k, fpMp (⟨q, mp, m, .slice none 0 0, v5⟩ : Loc) L5 k → w.heap.size ≤ k := fun k hk => by
                rcases hF5 k hk with h | h
                · exact hfp k h
                · exact Nat.le_trans hKB.size h
              have htb5 : ¬ fpMp (⟨q, mp, m, .slice none 0 0, v5⟩ : Loc) L5 tb := fun h => by
                rcases hF5 tb h with h | h
                · exact htb h
                · omega
              have hS5 : upS (⟨⟨2, 1, 1, en, false, 0⟩, E, []⟩ : MS) L1.length [kk] 1 = ⟨⟨2, 1, 1, en, false, 0⟩, E, []⟩ := by
                unfold upS
                simp only [hlk]
                rw [if_pos (by unfold refC; simp; try omega)]
              rw [hS5] at hM5
              have hlen5 : L5.length = L1.length := by
                have := congrArg List.length hL5
                unfold upC at this
                simp only [hlk] at this
                rw [if_pos (by unfold refC; simp; try omega)] at this; simpa using this
              go_wp2_with fail
              exact ⟨⟨i + 1, v5, E, L5, by go_num, by first | rfl | rw [hfull], by omega, by omega, hE, hM5, hth5, htb5, hfp5, hK5⟩, by simp [intOf]; omega⟩
            · refine (hU 1).mono ?_
              rintro e w5 ⟨v5, L5, he, hM5, hL5, hF5, hk5⟩
              have er : e = .returned (.int .i64 0) := he.trans (congrArg (fun z => Ending.returned (.int .i64 z)) (by simp only [hlk]; unfold refC; simp; omega))
              subst er
              clear he hU
              have hth5 := hthB.kept hk5 htb
              have hcell5 := hth5.cell kk
              rw [hlk] at hcell5
              have hfz5 := hth5.frozen kk
              simp only [Option.isSome_none] at hcell5
              have hK5 := hKB.trans hk5 (fun k hk h => absurd (hfp k h) (by omega))
              have hfp5 : ∀ k, fpMp (⟨q, mp, m, .slice none 0 0, v5⟩ : Loc) L5 k → w.heap.size ≤ k := fun k hk => by
                rcases hF5 k hk with h | h
                · exact hfp k h
                · exact Nat.le_trans hKB.size h
              have htb5 : ¬ fpMp (⟨q, mp, m, .slice none 0 0, v5⟩ : Loc) L5 tb := fun h => by
                rcases hF5 tb h with h | h
                · exact htb h
                · omega
              have hS5 : upS (⟨⟨2, 1, 1, en, false, 0⟩, E, []⟩ : MS) L1.length [kk] 1 = ⟨⟨2, 1, 1, en, false, 0⟩, E ++ [([kk], (L1.length : Int) + 1)], []⟩ := by
                unfold upS
                simp only [hlk]
                rw [if_neg (by unfold refC; simp; omega), if_neg (by simp)]
              rw [hS5] at hM5
              have hlen5 : L5.length = L1.length + 1 := by
                have := congrArg List.length hL5
                unfold upC at this
                simp only [hlk] at this
                rw [if_neg (by unfold refC; simp; omega)] at this
                simpa using this
              go_wp2_with fail
              have hkS : Kept (fun k => k = tb) w5 (w5.setCell ⟨tb, kk.toNat, none⟩ (.bool true)) := (Kept.refl (fun k => k = tb) w5).setCell (p := ⟨tb, kk.toNat, none⟩) (fun _ => rfl) _
              exact ⟨⟨i + 1, v5, E ++ [([kk], (L1.length : Int) + 1)], L5, by go_num, by simp, by omega, by omega, by simp; omega, hM5.kept hkS (fun k hk e => htb5 (by have e : k = tb := e; rw [← e]; exact hk)), hth5.put hlk _, htb5, hfp5, hK5.trans hkS (fun k hk e => by have e : k = tb := e; omega)⟩, by simp [intOf]; omega⟩
        · cases hlk : lookS E [kk] with
          | some id =>
            refine (hU 2).mono ?_
            rintro e w5 ⟨v5, L5, he, hM5, hL5, hF5, hk5⟩
            have er : e = .returned (.int .i64 0) := he.trans (congrArg (fun z => Ending.returned (.int .i64 z)) (by simp only [hlk]; unfold refC; simp))
            subst er
            clear he hU
            have hth5 := hthB.kept hk5 htb
            have hcell5 := hth5.cell kk
            rw [hlk] at hcell5
            have hfz5 := hth5.frozen kk
            simp only [Option.isSome_some] at hcell5
            have hK5 := hKB.trans hk5 (fun k hk h => absurd (hfp k h) (by omega))
            have hfp5 : ∀ k, fpMp (⟨q, mp, m, .slice none 0 0, v5⟩ : Loc) L5 k → w.heap.size ≤ k := fun k hk => by
              rcases hF5 k hk with h | h
              · exact hfp k h
              · exact Nat.le_trans hKB.size h
            have htb5 : ¬ fpMp (⟨q, mp, m, .slice none 0 0, v5⟩ : Loc) L5 tb := fun h => by
              rcases hF5 tb h with h | h
              · exact htb h
              · omega
            have hS5 : upS (⟨⟨2, 1, 1, en, false, 0⟩, E, []⟩ : MS) L1.length [kk] 2 = ⟨⟨2, 1, 1, en, false, 0⟩, E, []⟩ := by
              unfold upS
              simp only [hlk]
              simp
            rw [hS5] at hM5
            have hlen5 : L5.length = L1.length := by
              have := congrArg List.length hL5
              unfold upC at this
              simp only [hlk] at this
              split at this <;> simpa using this
            go_wp2_with fail
            exact ⟨⟨i + 1, v5, E, L5, by go_num, by first | rfl | rw [hfull], by omega, by omega, hE, hM5, hth5, htb5, hfp5, hK5⟩, by simp [intOf]; omega⟩
          | none =>
            refine (hU 2).mono ?_
            rintro e w5 ⟨v5, L5, he, hM5, hL5, hF5, hk5⟩
            have er : e = .returned (.int .i64 92) := he.trans (congrArg (fun z => Ending.returned (.int .i64 z)) (by simp only [hlk]; unfold refC; simp))
            subst er
            clear he hU
            have hth5 := hthB.kept hk5 htb
            have hcell5 := hth5.cell kk
            rw [hlk] at hcell5
            have hfz5 := hth5.frozen kk
            simp only [Option.isSome_none] at hcell5
            have hK5 := hKB.trans hk5 (fun k hk h => absurd (hfp k h) (by omega))
            have hfp5 : ∀ k, fpMp (⟨q, mp, m, .slice none 0 0, v5⟩ : Loc) L5 k → w.heap.size ≤ k := fun k hk => by
              rcases hF5 k hk with h | h
              · exact hfp k h
              · exact Nat.le_trans hKB.size h
            have htb5 : ¬ fpMp (⟨q, mp, m, .slice none 0 0, v5⟩ : Loc) L5 tb := fun h => by
              rcases hF5 tb h with h | h
              · exact htb h
              · omega
            have hS5 : upS (⟨⟨2, 1, 1, en, false, 0⟩, E, []⟩ : MS) L1.length [kk] 2 = ⟨⟨2, 1, 1, en, false, 0⟩, E, []⟩ := by
              unfold upS
              simp only [hlk]
              rw [if_pos (by unfold refC; simp; try omega)]
            rw [hS5] at hM5
            have hlen5 : L5.length = L1.length := by
              have := congrArg List.length hL5
              unfold upC at this
              simp only [hlk] at this
              rw [if_pos (by unfold refC; simp; try omega)] at this; simpa using this
            go_wp2_with fail
            exact ⟨⟨i + 1, v5, E, L5, by go_num, by first | rfl | rw [hfull], by omega, by omega, hE, hM5, hth5, htb5, hfp5, hK5⟩, by simp [intOf]; omega⟩
        · cases hlk : lookS E [kk] with
          | some id =>
            refine (hU 3).mono ?_
            rintro e w5 ⟨v5, L5, he, hM5, hL5, hF5, hk5⟩
            have er : e = .returned (.int .i64 96) := he.trans (congrArg (fun z => Ending.returned (.int .i64 z)) (by simp only [hlk]; unfold refC; simp))
            subst er
            clear he hU
            have hth5 := hthB.kept hk5 htb
            have hcell5 := hth5.cell kk
            rw [hlk] at hcell5
            have hfz5 := hth5.frozen kk
            simp only [Option.isSome_some] at hcell5
            have hK5 := hKB.trans hk5 (fun k hk h => absurd (hfp k h) (by omega))
            have hfp5 : ∀ k, fpMp (⟨q, mp, m, .slice none 0 0, v5⟩ : Loc) L5 k → w.heap.size ≤ k := fun k hk => by
              rcases hF5 k hk with h | h
              · exact hfp k h
              · exact Nat.le_trans hKB.size h
            have htb5 : ¬ fpMp (⟨q, mp, m, .slice none 0 0, v5⟩ : Loc) L5 tb := fun h => by
              rcases hF5 tb h with h | h
              · exact htb h
              · omega
            have hS5 : upS (⟨⟨2, 1, 1, en, false, 0⟩, E, []⟩ : MS) L1.length [kk] 3 = ⟨⟨2, 1, 1, en, false, 0⟩, E, []⟩ := by
              unfold upS
              simp only [hlk]
              simp
            rw [hS5] at hM5
            have hlen5 : L5.length = L1.length := by
              have := congrArg List.length hL5
              unfold upC at this
              simp only [hlk] at this
              split at this <;> simpa using this
            go_wp2_with fail
            exact ⟨⟨i + 1, v5, E, L5, by go_num, by first | rfl | rw [hfull], by omega, by omega, hE, hM5, hth5, htb5, hfp5, hK5⟩, by simp [intOf]; omega⟩
          | none =>
            refine (hU 3).mono ?_
            rintro e w5 ⟨v5, L5, he, hM5, hL5, hF5, hk5⟩
            have er : e = .returned (.int .i64 96) := he.trans (congrArg (fun z => Ending.returned (.int .i64 z)) (by simp only [hlk]; unfold refC; simp))
            subst er
            clear he hU
            have hth5 := hthB.kept hk5 htb
            have hcell5 := hth5.cell kk
            rw [hlk] at hcell5
            have hfz5 := hth5.frozen kk
            simp only [Option.isSome_none] at hcell5
            have hK5 := hKB.trans hk5 (fun k hk h => absurd (hfp k h) (by omega))
            have hfp5 : ∀ k, fpMp (⟨q, mp, m, .slice none 0 0, v5⟩ : Loc) L5 k → w.heap.size ≤ k := fun k hk => by
              rcases hF5 k hk with h | h
              · exact hfp k h
              · exact Nat.le_trans hKB.size h
            have htb5 : ¬ fpMp (⟨q, mp, m, .slice none 0 0, v5⟩ : Loc) L5 tb := fun h => by
              rcases hF5 tb h with h | h
              · exact htb h
              · omega
            have hS5 : upS (⟨⟨2, 1, 1, en, false, 0⟩, E, []⟩ : MS) L1.length [kk] 3 = ⟨⟨2, 1, 1, en, false, 0⟩, E, []⟩ := by
              unfold upS
              simp only [hlk]
              rw [if_pos (by unfold refC; simp; try omega)]
            rw [hS5] at hM5
            have hlen5 : L5.length = L1.length := by
              have := congrArg List.length hL5
              unfold upC at this
              simp only [hlk] at this
              rw [if_pos (by unfold refC; simp; try omega)] at this; simpa using this
            go_wp2_with fail
            exact ⟨⟨i + 1, v5, E, L5, by go_num, by first | rfl | rw [hfull], by omega, by omega, hE, hM5, hth5, htb5, hfp5, hK5⟩, by simp [intOf]; omega⟩
      · go_wp2_with fail
        have hkk : (kb.toNat : Int) % 12 = (((UInt8.ofNat (kb.toNat % 12)).toNat : Nat) : Int) := by rw [UInt8.toNat_ofNat']; omega
        rw [hkk]
        generalize UInt8.ofNat (kb.toNat % 12) = kk at *
        have hkB : Kept (fun _ => False) wr ((wr.alloc (.cells #[.int .u8 (kk.toNat : Int)] 5)).alloc (.cells #[.int .u8 (kk.toNat : Int)] 5)) := ((Kept.refl _ wr).alloc _).alloc _
        have hkey := (By.ofNew wr [kk] 1 (Nat.le_refl 1)).alloc (.cells #[.int .u8 (kk.toNat : Int)] 5)
        have hval := byNew2 wr (.cells #[.int .u8 (kk.toNat : Int)] 5) [kk] 1 (Nat.le_refl 1)
        have hkx : ∀ g, (Value.slice (some ⟨wr.heap.size, 0, none⟩) 1 1).ownBlock = some g → g ∉ blM mp v1 L1 := fun g hg h => by
          simp only [Value.ownBlock, Option.some.injEq] at hg
          have := hM.mem.lt h
          omega
        have hMB := hM.quiet hkB
        have hthB := hth.kept hkB (fun h => h)
        have hKB := hK.trans hkB (fun _ _ h => h)
        have htbl : tb < wr.heap.size := by obtain ⟨cs, hb, _⟩ := hth; exact hb.lt
        have htbB : tb < ((wr.alloc (.cells #[.int .u8 (kk.toNat : Int)] 5)).alloc (.cells #[.int .u8 (kk.toNat : Int)] 5)).heap.size := Nat.lt_of_lt_of_le htbl hkB.size
        have hU := fun f => update_all (⟨q, mp, m, .slice none 0 0, v1⟩ : Loc) (⟨⟨2, 1, 1, en, false, 0⟩, E, []⟩ : MS) L1 _ _ [kk] [kk] f _ hMB hkey hkx hval rfl rfl (Nat.zero_le _) Nat.one_pos (by simp) (by omega) (by show E.length < 1000000; omega)
        clear hkey hval hkx
        generalize (wr.alloc (.cells #[.int .u8 (kk.toNat : Int)] 5)).alloc (.cells #[.int .u8 (kk.toNat : Int)] 5) = wB at *
        cases hlk : lookS E [kk] with
        | some id =>
          refine (hU 0).mono ?_
          rintro e w5 ⟨v5, L5, he, hM5, hL5, hF5, hk5⟩
          have er : e = .returned (.int .i64 0) := he.trans (congrArg (fun z => Ending.returned (.int .i64 z)) (by simp only [hlk]; unfold refC; simp))
          subst er
          clear he hU
          have hth5 := hthB.kept hk5 htb
          have hcell5 := hth5.cell kk
          rw [hlk] at hcell5
          have hfz5 := hth5.frozen kk
          simp only [Option.isSome_some] at hcell5
          have hK5 := hKB.trans hk5 (fun k hk h => absurd (hfp k h) (by omega))
          have hfp5 : ∀ k, fpMp (⟨q, mp, m, .slice none 0 0, v5⟩ : Loc) L5 k → w.heap.size ≤ k := fun k hk => by
            rcases hF5 k hk with h | h
            · exact hfp k h
            · exact Nat.le_trans hKB.size h
          have htb5 : ¬ fpMp (⟨q, mp, m, .slice none 0 0, v5⟩ : Loc) L5 tb := fun h => by
            rcases hF5 tb h with h | h
            · exact htb h
            · omega
          have hS5 : upS (⟨⟨2, 1, 1, en, false, 0⟩, E, []⟩ : MS) L1.length [kk] 0 = ⟨⟨2, 1, 1, en, false, 0⟩, E, []⟩ := by
            unfold upS
            simp only [hlk]
            simp
          rw [hS5] at hM5
          have hlen5 : L5.length = L1.length := by
            have := congrArg List.length hL5
            unfold upC at this
            simp only [hlk] at this
            split at this <;> simpa using this
          go_wp2_with fail
          exact ⟨⟨i + 1, v5, E, L5, by go_num, by first | rfl | rw [hfull], by omega, by omega, hE, hM5, hth5, htb5, hfp5, hK5⟩, by simp [intOf]; omega⟩
        | none =>
          by_cases hfull : (E.length : Int) = en
          · refine (hU 0).mono ?_
            rintro e w5 ⟨v5, L5, he, hM5, hL5, hF5, hk5⟩
            have er : e = .returned (.int .i64 93) := he.trans (congrArg (fun z => Ending.returned (.int .i64 z)) (by simp only [hlk]; unfold refC; simp; omega))
            subst er
            clear he hU
            have hth5 := hthB.kept hk5 htb
            have hcell5 := hth5.cell kk
            rw [hlk] at hcell5
            have hfz5 := hth5.frozen kk
            simp only [Option.isSome_none] at hcell5
            have hK5 := hKB.trans hk5 (fun k hk h => absurd (hfp k h) (by omega))
            have hfp5 : ∀ k, fpMp (⟨q, mp, m, .slice none 0 0, v5⟩ : Loc) L5 k → w.heap.size ≤ k := fun k hk => by
              rcases hF5 k hk with h | h
              · exact hfp k h
              · exact Nat.le_trans hKB.size h
            have htb5 : ¬ fpMp (⟨q, mp, m, .slice none 0 0, v5⟩ : Loc) L5 tb := fun h => by
              rcases hF5 tb h with h | h
              · exact htb h
              · omega
            have hS5 : upS (⟨⟨2, 1, 1, en, false, 0⟩, E, []⟩ : MS) L1.length [kk] 0 = ⟨⟨2, 1, 1, en, false, 0⟩, E, []⟩ := by
              unfold upS
              simp only [hlk]
              rw [if_pos (by unfold refC; simp; try omega)]
            rw [hS5] at hM5
            have hlen5 : L5.length = L1.length := by
              have := congrArg List.length hL5
              unfold upC at this
              simp only [hlk] at this
              rw [if_pos (by unfold refC; simp; try omega)] at this; simpa using this
            go_wp2_with fail
            exact ⟨⟨i + 1, v5, E, L5, by go_num, by first | rfl | rw [hfull], by omega, by omega, hE, hM5, hth5, htb5, hfp5, hK5⟩, by simp [intOf]; omega⟩
          · refine (hU 0).mono ?_
            rintro e w5 ⟨v5, L5, he, hM5, hL5, hF5, hk5⟩
            have er : e = .returned (.int .i64 0) := he.trans (congrArg (fun z => Ending.returned (.int .i64 z)) (by simp only [hlk]; unfold refC; simp; omega))
            subst er
            clear he hU
            have hth5 := hthB.kept hk5 htb
            have hcell5 := hth5.cell kk
            rw [hlk] at hcell5
            have hfz5 := hth5.frozen kk
            simp only [Option.isSome_none] at hcell5
            have hK5 := hKB.trans hk5 (fun k hk h => absurd (hfp k h) (by omega))
            have hfp5 : ∀ k, fpMp (⟨q, mp, m, .slice none 0 0, v5⟩ : Loc) L5 k → w.heap.size ≤ k := fun k hk => by
              rcases hF5 k hk with h | h
              · exact hfp k h
              · exact Nat.le_trans hKB.size h
            have htb5 : ¬ fpMp (⟨q, mp, m, .slice none 0 0, v5⟩ : Loc) L5 tb := fun h => by
              rcases hF5 tb h with h | h
              · exact htb h
              · omega
            have hS5 : upS (⟨⟨2, 1, 1, en, false, 0⟩, E, []⟩ : MS) L1.length [kk] 0 = ⟨⟨2, 1, 1, en, false, 0⟩, E ++ [([kk], (L1.length : Int) + 1)], []⟩ := by
              unfold upS
              simp only [hlk]
              rw [if_neg (by unfold refC; simp; omega), if_neg (by simp)]
            rw [hS5] at hM5
            have hlen5 : L5.length = L1.length + 1 := by
              have := congrArg List.length hL5
              unfold upC at this
              simp only [hlk] at this
              rw [if_neg (by unfold refC; simp; omega)] at this
              simpa using this
            go_wp2_with fail
            have hkS : Kept (fun k => k = tb) w5 (w5.setCell ⟨tb, kk.toNat, none⟩ (.bool true)) := (Kept.refl (fun k => k = tb) w5).setCell (p := ⟨tb, kk.toNat, none⟩) (fun _ => rfl) _
            exact ⟨⟨i + 1, v5, E ++ [([kk], (L1.length : Int) + 1)], L5, by go_num, by simp, by omega, by omega, by simp; omega, hM5.kept hkS (fun k hk e => htb5 (by have e : k = tb := e; rw [← e]; exact hk)), hth5.put hlk _, htb5, hfp5, hK5.trans hkS (fun k hk e => by have e : k = tb := e; omega)⟩, by simp [intOf]; omega⟩

end Go.Proofs.Ytahabogjfcdjkaa
