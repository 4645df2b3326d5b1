import Derived.Test.YtdchmelgaljpfaaGreatJg
import Derived.Test.YtdchmelgaljpfaaGreatJh
set_option linter.unusedSimpArgs false
set_option linter.unusedVariables false
namespace Go.Proofs.YtdchmelgaljpfaaGreat
open Go.RowKit

section
variable {w : World} {ops : Array Oper} {rest : List Oper} {o : Oper} {a : Act} {Q : Exit → Act → World → Prop}
/-- 's = append(s, y)' at integers -/
theorem wpList_pushI (hgd : o.guard = none) (s x : Operand) (ho : o.op = .call { callee := .builtin .append, args := #[s, x], argTypes := #[47, 47] })
    (v : Value) (L : List Int) (y : Int) (hs : a.eval s = v) (hx : a.eval x = .slice (some ⟨w.heap.size, 0, none⟩) 1 1) (h : Ints w v L) (hlen : L.length < 1073741824)
    (hK : ∀ v' w', Ints w' v' (L ++ [y]) → Kept (fun k => v.ownBlock = some k) w w' → (∀ g, v'.ownBlock = some g → v.ownBlock = some g ∨ w.heap.size ≤ g) → wpList Tryz.prog ops Q rest (a.put o.dst v') w') :
    wpList Tryz.prog ops Q (o :: rest) a (w.alloc (.cells #[.int .i64 y] 3)) := by
  obtain ⟨i0, hI0, hI1, hI2, hI3⟩ := info_parts infoI
  refine wpList_push (w := w) hgd s x 47 ho Tryz.underlying47 hI0 hI1 hI2 hI3 rfl (by omega) v (L.map icell') (icell' y) hs hx h rfl (by simp [icell', Value.oneCell']) (by simpa using hlen) (by omega) ?_
  intro g cap w' hS hk hg
  refine hK _ w' ?_ hk (fun g' hg' => by
    simp only [Value.ownBlock, Option.some.injEq] at hg'
    subst hg'
    exact hg)
  unfold Ints
  rw [List.map_append]
  exact hS
end

/-! ### where subprograms begin -/
def tgtC (l : List In) (i : Nat) : Option Int := match l[i]?, (secL l)[i]? with
  | some x, some false => if isCallB x = true then some ((i : Int) + 1 + x.imm) else none
  | _, _ => none
def tgtsL (l : List In) (n : Nat) : List Int := (List.range n).filterMap (tgtC l)
theorem tgts_succ (l : List In) (n : Nat) : tgtsL l (n + 1) = tgtsL l n ++ (tgtC l n).toList := by
  unfold tgtsL
  rw [List.range_succ, List.filterMap_append]
  cases hc : tgtC l n <;> simp [hc]
theorem tgts_len (l : List In) : ∀ n, (tgtsL l n).length ≤ n
  | 0 => by simp [tgtsL]
  | n + 1 => by
    have := tgts_len l n
    rw [tgts_succ, List.length_append]
    cases tgtC l n <;> simp <;> omega
def beginsL (l : List In) : List Int := Lib.compact (sortL (0 :: tgtsL l l.length))
set_option maxHeartbeats 4000000 in
set_option maxRecDepth 100000 in
theorem begins_any (l : List In) (a : Option Addr) (c : Nat) (sv : Value) (w : World) (h : Ins w (.slice a l.length c) l) (hok : InsOk l) (hS : Bls w sv (secL l)) :
    Calls Tryz.prog 48 #[.slice a l.length c, sv] w fun e w' => ∃ ov, e = .returned ov ∧ Ints w' ov (beginsL l) ∧ Kept (fun _ => False) w w' ∧ ∀ g, ov.ownBlock = some g → w.heap.size ≤ g := by
  have hlen := hok.len
  have HCA := Lib.hid (fun i x W hx hI => calls_any l a c i x W hI hok hx)
  have hL0 : Ints (w.alloc (.cells #[.int .i64 0] 3)) (.slice (some ⟨w.heap.size, 0, none⟩) 1 1) [0] := by
    have hb : (w.alloc (.cells #[.int .i64 0] 3)).heap[w.heap.size]? = some (.cells #[.int .i64 0] 3 (0, 0)) := heap_alloc_new w _
    refine ⟨fun c hc => by obtain ⟨u, _, rfl⟩ := List.mem_map.1 hc; rfl, rfl, .inr ⟨w.heap.size, 1, _, rfl, Nat.zero_le _, hb, Nat.le_refl _, by unfold maxLen; omega, rfl, rfl⟩⟩
  have hk0 : Kept (fun _ => False) w (w.alloc (.cells #[.int .i64 0] 3)) := (Kept.refl _ w).alloc _
  go_enter Tryz.func48, Tryz.ntmps48
  go_wp2_with fail
  go_loopw [5, 12] (fun ov iv wr => ∃ i : Nat, iv = .int .i64 i ∧ i ≤ l.length ∧ Ints wr ov (0 :: tgtsL l i) ∧ Kept (fun _ => False) w wr ∧ ∀ g, ov.ownBlock = some g → w.heap.size ≤ g) (fun _ iv _ => l.length - (intOf iv).toNat)
  case atStart => exact ⟨0, rfl, by omega, hL0, hk0, fun g hg => Nat.le_of_eq (Option.some.inj (show some w.heap.size = some g from hg))⟩
  case round =>
    clear hL0 hk0
    obtain ⟨i, rfl, hi, hL, hK, hown⟩ := hrel
    by_cases hlt : i < l.length
    case neg =>
      obtain rfl : i = l.length := by omega
      have htl := tgts_len l l.length
      have HS1 := Lib.hid (fun W hW => sortI_any u5 (0 :: tgtsL l l.length) W hW (by simp) (by simp; omega))
      have hsl : (sortL (0 :: tgtsL l l.length)).length = (tgtsL l l.length).length + 1 := by unfold sortL; rw [List.length_mergeSort]; rfl
      have HS2 := Lib.hid (fun W hW => compactI_any u5 (sortL (0 :: tgtsL l l.length)) W hW (fun e => by rw [e] at hsl; simp at hsl) (by omega))
      clear htl hsl
      go_wp2_with fail
      refine (HS1.out _ hL).mono ?_
      rintro e w1 ⟨rfl, hL1, hk1⟩
      have hK1 := hK.trans hk1 (fun k hk e => by have := hown k e; omega)
      go_wp2_with fail
      refine (HS2.out _ hL1).mono ?_
      rintro e w2 ⟨v2, rfl, hL2, hk2, ho2⟩
      have hK2 := hK1.trans hk2 (fun k hk e => by have := hown k e; omega)
      go_wp2_with fail
      go_ret
      exact ⟨_, rfl, hL2, hK2, fun g hg => hown g (by rw [← ho2]; exact hg)⟩
    case pos =>
      obtain ⟨x, hx⟩ : ∃ x, l[i]? = some x := ⟨_, List.getElem?_eq_getElem hlt⟩
      obtain ⟨b, hb⟩ : ∃ b, (secL l)[i]? = some b := ⟨_, List.getElem?_eq_getElem (by rw [sec_len]; omega)⟩
      have hS2 := Sl.kept hK hS (fun _ _ h => h)
      obtain ⟨g, sc, hsv, hg, d0⟩ := Bls.at_ hS2 hb
      rw [sec_len] at hsv
      have htc : tgtC l i = if isCallB x = true ∧ b = false then some ((i : Int) + 1 + x.imm) else none := by
        unfold tgtC
        rw [hx, hb]
        cases b <;> simp
      have hnx := tgts_succ l i
      have htl := tgts_len l i
      rw [htc] at hnx
      have HC := Lib.hid (HCA.out i x _ hx (h.kept hK))
      have HNX := Lib.hid hnx
      have HOWN := Lib.hid hown
      clear hx hb hS2 hS h hok htc hnx hown
      subst hsv
      generalize isCallB x = ic at *
      go_wp2_with fail
      refine HC.out.mono ?_
      rintro e w1 ⟨rfl, hk1⟩
      have hK1 := hK.trans hk1 (fun _ _ h => h)
      have d1 := (hk1.cell (p := ⟨g, i, none⟩) hg (fun h => h)).trans d0
      have hL1 := Sl.kept hk1 hL (fun _ _ h => h)
      clear hk1 d0 hL hK HC
      by_cases hgo : ic = true ∧ b = false
      · obtain ⟨rfl, rfl⟩ := hgo
        have hnx := HNX.out
        rw [if_pos ⟨rfl, rfl⟩, Option.toList_some] at hnx
        have HN2 := Lib.hid hnx
        clear hnx HNX
        generalize (i : Int) + 1 + x.imm = t at *
        go_wp2_with (at_builtin; refine wpList_pushI (w := w1) rfl (.tmp 29) (.tmp 31) rfl u5 (0 :: tgtsL l i) t rfl rfl hL1 (by simp; omega) ?_; intro v5 w5 hL5 hk5 hw5)
        have hK5 := hK1.trans hk5 (fun k hk e => by have := HOWN.out k e; omega)
        go_roundw
        case rel => exact ⟨i + 1, by go_num, by omega, by rw [HN2.out, ← List.cons_append]; exact hL5, hK5, fun g hg => (hw5 g hg).elim (HOWN.out g) (fun h => Nat.le_trans hK1.size h)⟩
        case measure => simp [intOf]; omega
      · have hnx := HNX.out
        have hnx2 : tgtsL l (i + 1) = tgtsL l i := by
          rw [hnx, if_neg hgo]
          simp
        have HN2 := Lib.hid hnx2
        clear hnx hnx2 HNX
        cases ic <;> cases b
        case true.false => exact absurd ⟨rfl, rfl⟩ hgo
        all_goals
          clear hgo
          go_wp2_with fail
          go_roundw
          case rel => exact ⟨i + 1, by go_num, by omega, by rw [HN2.out]; exact hL1, hK1, HOWN.out⟩
          case measure => simp [intOf]; omega

end Go.Proofs.YtdchmelgaljpfaaGreat
