import Derived.Test.YtdchmelgaljpfaaGreatJf
set_option linter.unusedSimpArgs false
set_option linter.unusedVariables false
namespace Go.Proofs.YtdchmelgaljpfaaGreat
open Go.RowKit

/-! ### slots -/
def slotC (l : List In) (i : Nat) : Int := match l[i]?, (secL l)[i]? with
  | some x, some false => wrongC l i x
  | _, _ => 0
def scanC (l : List In) : Nat → Nat → Int
  | _, 0 => 0
  | i, n + 1 => if slotC l i = 0 then scanC l (i + 1) n else slotC l i
def slotsC (l : List In) : Int := if l.length < 1 ∨ 4096 < l.length then 10 else scanC l 0 l.length
theorem Bls.at_ {w : World} {v : Value} {B : List Bool} (h : Bls w v B) {i : Nat} {b : Bool} (hb : B[i]? = some b) : ∃ g c, v = .slice (some ⟨g, 0, none⟩) B.length c ∧ g < w.heap.size ∧ w.cell? ⟨g, i, none⟩ = some (.bool b) := by
  have hi := (List.getElem?_eq_some_iff.1 hb).1
  obtain ⟨g, c, rfl, hc, hg⟩ := Sl.some_ h (by rw [List.length_map]; omega)
  rw [List.length_map] at *
  exact ⟨g, c, rfl, hg, Bls.cell h hb⟩
set_option maxHeartbeats 4000000 in
set_option maxRecDepth 100000 in
theorem slots_any (l : List In) (a : Option Addr) (c : Nat) (sv : Value) (w : World) (h : Ins w (.slice a l.length c) l) (hok : InsOk l) (hS : Bls w sv (secL l)) :
    Calls Tryz.prog 46 #[.slice a l.length c, sv] w fun e w' => (∃ p : Int, e = .returned (.tuple #[.int .i64 p, .int .i64 (slotsC l)])) ∧ Kept (fun _ => False) w w' := by
  have hlen := hok.len
  have HWR := Lib.hid (fun i x W hx hI hB => wrong_any l a c i x sv W hI hok hx hB)
  obtain ⟨r, hr⟩ : ∃ r, slotsC l = r := ⟨_, rfl⟩
  rw [hr]
  unfold slotsC at hr
  by_cases h1 : l.length < 1
  · rw [if_pos (.inl h1)] at hr
    subst hr
    have h1d : decide ((l.length : Int) < 1) = true := decide_eq_true (by omega)
    have h1e : decide (l.length < 1) = true := decide_eq_true (by omega)
    clear h1
    go_enter Tryz.func46, Tryz.ntmps46
    go_wp2_with fail
    go_ret2
    exact ⟨⟨_, rfl⟩, Kept.refl _ w⟩
  by_cases h2 : 4096 < l.length
  · rw [if_pos (.inr h2)] at hr
    subst hr
    go_enter Tryz.func46, Tryz.ntmps46
    go_wp2_with fail
    go_ret2
    exact ⟨⟨_, rfl⟩, Kept.refl _ w⟩
  rw [if_neg (by omega)] at hr
  have HR := Lib.hid hr
  clear hr
  go_enter Tryz.func46, Tryz.ntmps46
  go_wp2_with fail
  go_loopw [18] (fun iv wr => ∃ i n : Nat, iv = .int .i64 i ∧ i + n = l.length ∧ scanC l i n = r ∧ Kept (fun _ => False) w wr) (fun iv _ => l.length - (intOf iv).toNat)
  case atStart => exact ⟨0, l.length, rfl, by omega, HR.out, Kept.refl _ _⟩
  case round =>
    obtain ⟨i, n, rfl, hin, hsc, hK⟩ := hrel
    cases n with
    | zero =>
      obtain rfl : i = l.length := by omega
      simp only [scanC] at hsc
      subst hsc
      go_wp2_with fail
      go_ret2
      exact ⟨⟨_, rfl⟩, hK⟩
    | succ n =>
      have hlt : i < l.length := by omega
      obtain ⟨x, hx⟩ : ∃ x, l[i]? = some x := ⟨_, List.getElem?_eq_getElem hlt⟩
      obtain ⟨b, hb⟩ : ∃ b, (secL l)[i]? = some b := ⟨_, List.getElem?_eq_getElem (by rw [sec_len]; omega)⟩
      have hS2 := Sl.kept hK hS (fun _ _ h => h)
      obtain ⟨g, sc, hsv, hg, d0⟩ := Bls.at_ hS2 hb
      have hsc2 : (match some x, some b with | some x, some false => wrongC l i x | _, _ => 0) = slotC l i := by unfold slotC; rw [hx, hb]
      rw [sec_len] at hsv
      unfold scanC at hsc
      rw [← hsc2] at hsc
      have HX := Lib.hid hx
      have HI := Lib.hid (h.kept hK)
      have HS := Lib.hid hS2
      clear hx hb hsc2 hS2 h hS hok
      subst hsv
      cases b with
      | true =>
        simp only [if_true] at hsc
        have HSC := Lib.hid hsc
        clear hsc
        go_wp2_with fail
        go_roundw
        case rel => exact ⟨i + 1, n, by go_num, by omega, HSC.out, hK⟩
        case measure => simp [intOf]; omega
      | false =>
        simp only at hsc
        have HW := Lib.hid (HWR.out i x _ HX.out HI.out HS.out)
        generalize wrongC l i x = wc at *
        by_cases hz : wc = 0
        · rw [if_pos hz] at hsc
          subst hz
          have HSC := Lib.hid hsc
          clear hsc
          go_wp2_with fail
          refine HW.out.mono ?_
          rintro e w2 ⟨rfl, hk2⟩
          have hK2 := hK.trans hk2 (fun _ _ h => h)
          go_wp2_with fail
          go_roundw
          case rel => exact ⟨i + 1, n, by go_num, by omega, HSC.out, hK2⟩
          case measure => simp [intOf]; omega
        · rw [if_neg hz] at hsc
          subst hsc
          have hzd : (wc != 0) = true := by simpa using hz
          clear hz
          go_wp2_with fail
          refine HW.out.mono ?_
          rintro e w2 ⟨rfl, hk2⟩
          have hK2 := hK.trans hk2 (fun _ _ h => h)
          go_wp2_with fail
          go_ret2
          exact ⟨⟨_, rfl⟩, hK2⟩

end Go.Proofs.YtdchmelgaljpfaaGreat
