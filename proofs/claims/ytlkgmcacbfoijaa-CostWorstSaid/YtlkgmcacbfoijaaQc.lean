import Derived.Test.YtlkgmcacbfoijaaQb
set_option linter.unusedSimpArgs false
set_option linter.unusedVariables false
namespace Go.Proofs.Ytlkgmcacbfoijaa
open Go.RowKit

/-! ### a line's words -/
def scell (s : List UInt8) : List Value := [stV s]
abbrev Strs (w : World) (v : Value) (L : List (List UInt8)) : Prop := Sl w 9 1 v (L.map scell)
theorem infoStr : (Try.prog.info? 9).map (fun i => (i.zero, i.size, i.bytes)) = some (some (.string .empty), 1, 16) := by kernel_rfl
theorem Strs.cell {w : World} {g n cap : Nat} {L : List (List UInt8)} (h : Strs w (.slice (some ⟨g, 0, none⟩) n cap) L) {i : Nat} {x : List UInt8} (hi : L[i]? = some x) : w.cell? ⟨g, i, none⟩ = some (stV x) := by
  have := Sl.cell h (i := i) (c := scell x) (by rw [List.getElem?_map, hi]; rfl) (k := 0) (by omega)
  simpa [scell] using this
def spB (b : UInt8) : Bool := ((b.toNat : Int) == 32)
def wordsG (cur : List UInt8) : List UInt8 → List (List UInt8)
  | [] => [cur]
  | b :: r => if spB b = true then cur :: wordsG [] r else wordsG (cur ++ [b]) r
def wordsS (l : List UInt8) : List (List UInt8) := wordsG [] l
theorem wordsG_pos (cur l : List UInt8) : 1 ≤ (wordsG cur l).length := by
  induction l generalizing cur with
  | nil => simp [wordsG]
  | cons b r ih =>
    unfold wordsG
    split
    · simp
    · exact ih _
theorem wordsG_len (cur l : List UInt8) : (wordsG cur l).length ≤ l.length + 1 := by
  induction l generalizing cur with
  | nil => simp [wordsG]
  | cons b r ih =>
    unfold wordsG
    split
    · have := ih []
      simp
      omega
    · have := ih (cur ++ [b])
      simp
      omega
theorem drop_cons {l : List UInt8} {i : Nat} {b : UInt8} (h : l[i]? = some b) : l.drop i = b :: l.drop (i + 1) := by
  obtain ⟨hi, rfl⟩ := List.getElem?_eq_some_iff.1 h
  exact List.drop_eq_getElem_cons hi
theorem cut_more {l : List UInt8} {f i : Nat} {b : UInt8} (h : l[i]? = some b) (hf : f ≤ i) : (l.take (i + 1)).drop f = (l.take i).drop f ++ [b] := by
  have hi := (List.getElem?_eq_some_iff.1 h).1
  rw [List.take_add_one, h]
  simp only [Option.toList_some]
  rw [List.drop_append_of_le_length (by rw [List.length_take]; omega)]
set_option maxHeartbeats 8000000 in
set_option maxRecDepth 100000 in
theorem words_any (l : List UInt8) (w : World) (hl : l.length ≤ 1000000) : Calls Try.prog 60 #[stV l] w fun e w' => ∃ ov, e = .returned ov ∧ Strs w' ov (wordsS l) ∧ Kept (fun _ => False) w w' := by
  have hsz := ba_size l
  obtain ⟨i0, hI0, hI1, hI2, hI3⟩ := info_parts infoStr
  go_enter Try.func60, Try.ntmps60
  go_wp2_with fail
  go_loopw [3, 4, 5] (fun ov fv iv wr => ∃ (i f : Nat) (W : List (List UInt8)), iv = .int .i64 i ∧ fv = .int .i64 f ∧ i ≤ l.length + 1 ∧ f ≤ i ∧ W.length ≤ i ∧ (i ≤ l.length → W ++ wordsG ((l.take i).drop f) (l.drop i) = wordsS l) ∧ (i = l.length + 1 → W = wordsS l) ∧ Strs wr ov W ∧ (∀ g, ov.ownBlock = some g → w.heap.size ≤ g) ∧ Kept (fun _ => False) w wr) (fun _ _ iv _ => l.length + 1 - (intOf iv).toNat)
  case atStart => exact ⟨0, 0, [], rfl, rfl, by omega, by omega, by simp, fun _ => rfl, fun h => by omega, Sl.nil _ _ _, fun g hg => by simp [Value.ownBlock] at hg, Kept.refl _ _⟩
  case round =>
    obtain ⟨i, f, W, rfl, rfl, hi, hf, hW, h1, h2, hO, hown, hK⟩ := hrel
    have H1 := Lib.hid h1
    have H2 := Lib.hid h2
    clear h1 h2
    by_cases hlt : i < l.length
    case pos =>
      have hid : decide ((i : Int) ≤ l.length) = true := decide_eq_true (by omega)
      have hie : ((i : Int) == (l.length : Int)) = false := by simp; omega
      obtain ⟨b, hb⟩ : ∃ b, l[i]? = some b := ⟨_, List.getElem?_eq_getElem hlt⟩
      have hix := st_index hb
      have HB := Lib.hid hb
      have HD := Lib.hid (drop_cons hb)
      have HC := Lib.hid (cut_more hb hf)
      clear hb
      cases hs : ((b.toNat : Int) == 32)
      case false =>
        have HN : Hid (W ++ wordsG ((l.take (i + 1)).drop f) (l.drop (i + 1)) = wordsS l) := Lib.hid (by
          rw [← H1.out (by omega), HD.out, HC.out]
          show _ = W ++ (if spB b = true then _ else wordsG ((l.take i).drop f ++ [b]) (l.drop (i + 1)))
          rw [if_neg (by show ¬ (((b.toNat : Int) == 32) = true); rw [hs]; decide)])
        go_wp2_with fail
        go_roundw
        case rel => exact ⟨i + 1, f, W, by go_num, rfl, by omega, by omega, by omega, fun _ => HN.out, fun h => by omega, hO, hown, hK⟩
        case measure => (simp [intOf]; try omega)
      case true =>
        have hcut := st_cut (l := l) (m := f) (n := i) hf (by omega)
        have HN : Hid ((W ++ [(l.take i).drop f]) ++ wordsG ((l.take (i + 1)).drop (i + 1)) (l.drop (i + 1)) = wordsS l) := Lib.hid (by
          rw [← H1.out (by omega), HD.out]
          show _ = W ++ (if spB b = true then ((l.take i).drop f) :: wordsG [] (l.drop (i + 1)) else _)
          rw [if_pos (show spB b = true from hs), List.append_assoc, show (l.take (i + 1)).drop (i + 1) = [] from List.drop_eq_nil_of_le (by rw [List.length_take]; omega)]
          rfl)
        go_wp2_with (at_builtin; refine wpList_push (w := wr) rfl (.tmp 22) (.tmp 27) 103 rfl Try.underlying103 hI0 hI1 hI2 hI3 rfl (by omega) _ (W.map scell) (scell ((l.take i).drop f)) rfl rfl hO rfl (by simp [scell, Value.oneCell']) (by rw [List.length_map]; omega) (by omega) ?_; intro g5 cap5 w5 hS5 hk5 hg5)
        have hS6 : Strs w5 (.slice (some ⟨g5, 0, none⟩) (W.length + 1) cap5) (W ++ [(l.take i).drop f]) := by
          rw [List.length_map] at hS5
          show Sl _ _ _ _ ((_ ++ [_]).map scell)
          rw [List.map_append]
          exact hS5
        go_roundw
        case rel => exact ⟨i + 1, i + 1, W ++ [(l.take i).drop f], by go_num, by go_num, by omega, by omega, by simp; omega, fun _ => HN.out, fun h => by omega, hS6, fun g hg => by
          have e : g5 = g := Option.some.inj hg
          subst e
          rcases hg5 with h | h
          · exact hown _ h
          · have := hK.size
            omega, hK.trans hk5 (fun k hk e => by have := hown k e; omega)⟩
        case measure => (simp [intOf]; try omega)
    case neg =>
      by_cases hend : i = l.length
      case pos =>
        subst hend
        have hid : decide ((l.length : Int) ≤ l.length) = true := decide_eq_true (by omega)
        have hie : ((l.length : Int) == (l.length : Int)) = true := by simp
        have hcut := st_cut (l := l) (m := f) (n := l.length) hf (by omega)
        rw [List.take_length] at hcut
        have HN : Hid (W ++ [l.drop f] = wordsS l) := Lib.hid (by
          rw [← H1.out (by omega), List.drop_length, List.take_length]
          rfl)
        go_wp2_with (at_builtin; refine wpList_push (w := wr) rfl (.tmp 22) (.tmp 27) 103 rfl Try.underlying103 hI0 hI1 hI2 hI3 rfl (by omega) _ (W.map scell) (scell (l.drop f)) rfl rfl hO rfl (by simp [scell, Value.oneCell']) (by rw [List.length_map]; omega) (by omega) ?_; intro g5 cap5 w5 hS5 hk5 hg5)
        have hS6 : Strs w5 (.slice (some ⟨g5, 0, none⟩) (W.length + 1) cap5) (W ++ [l.drop f]) := by
          rw [List.length_map] at hS5
          show Sl _ _ _ _ ((_ ++ [_]).map scell)
          rw [List.map_append]
          exact hS5
        go_roundw
        case rel => exact ⟨l.length + 1, l.length + 1, W ++ [l.drop f], by go_num, by go_num, by omega, by omega, by simp; omega, fun h => by omega, fun h => HN.out, hS6, fun g hg => by
          have e : g5 = g := Option.some.inj hg
          subst e
          rcases hg5 with h | h
          · exact hown _ h
          · have := hK.size
            omega, hK.trans hk5 (fun k hk e => by have := hown k e; omega)⟩
        case measure => (simp [intOf]; try omega)
      case neg =>
        obtain rfl : i = l.length + 1 := by omega
        have hid : decide ((((l.length + 1 : Nat)) : Int) ≤ l.length) = false := decide_eq_false (by omega)
        have hR := H2.out rfl
        subst hR
        go_wp2_with fail
        go_ret
        exact ⟨_, rfl, hO, hK⟩

end Go.Proofs.Ytlkgmcacbfoijaa
