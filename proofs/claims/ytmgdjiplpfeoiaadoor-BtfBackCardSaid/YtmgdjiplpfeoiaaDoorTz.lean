import Derived.Test.YtmgdjiplpfeoiaaDoorTy
import Derived.Test.YtmgdjiplpfeoiaaDoorSg
import Derived.Test.YtmgdjiplpfeoiaaDoorSMap
set_option linter.unusedSimpArgs false
set_option linter.unusedVariables false
namespace Go.Proofs.YtmgdjiplpfeoiaaDoor
open Go.RowKit

set_option maxHeartbeats 1000000 in
theorem sized_any (t : Ty) (ma : Option Addr) (n mc : Nat) (w : World) :
    Calls Tryd.prog 53 #[.agg (tyVals t (.slice ma n mc))] w fun e w' => e = .returned (.bool (sizedB t)) ∧ Kept (fun _ => False) w w' := by
  obtain ⟨kind, name, size, signed, to, count, mem⟩ := t
  unfold sizedB
  simp only
  by_cases h1 : kind = 1
  · subst h1
    rw [if_pos rfl]
    go_enter Tryd.func53, Tryd.ntmps53
    go_wp2
    all_goals go_ret
    all_goals (refine ⟨?_, (Kept.refl _ w).alloc _⟩)
    all_goals (show Ending.returned (Value.bool _) = Ending.returned (Value.bool _))
    all_goals (refine congrArg (fun b => Ending.returned (Value.bool b)) ?_)
    all_goals first | rfl | (rw [Bool.eq_iff_iff]; simp; try omega)
  rw [if_neg h1]
  by_cases h3 : kind = 3
  · subst h3
    rw [if_pos rfl]
    go_enter Tryd.func53, Tryd.ntmps53
    go_wp2
    all_goals go_ret
    all_goals (refine ⟨?_, (Kept.refl _ w).alloc _⟩)
    all_goals (show Ending.returned (Value.bool _) = Ending.returned (Value.bool _))
    all_goals (refine congrArg (fun b => Ending.returned (Value.bool b)) ?_)
    all_goals first | rfl | (rw [Bool.eq_iff_iff]; simp; try omega)
  rw [if_neg h3]
  by_cases h4 : kind = 4
  · subst h4
    rw [if_pos rfl]
    go_enter Tryd.func53, Tryd.ntmps53
    go_wp2
    all_goals go_ret
    all_goals (refine ⟨?_, (Kept.refl _ w).alloc _⟩)
    all_goals (show Ending.returned (Value.bool _) = Ending.returned (Value.bool _))
    all_goals (refine congrArg (fun b => Ending.returned (Value.bool b)) ?_)
    all_goals first | rfl | (rw [Bool.eq_iff_iff]; simp; try omega)
  rw [if_neg h4]
  have e1 : (kind == 1) = false := by simpa using h1
  have e3 : (kind == 3) = false := by simpa using h3
  have e4 : (kind == 4) = false := by simpa using h4
  clear h1 h3 h4
  go_enter Tryd.func53, Tryd.ntmps53
  go_wp2
  go_ret
  exact ⟨rfl, (Kept.refl _ w).alloc _⟩

theorem infoI : (Tryd.prog.info? 3).map (fun i => (i.zero, i.size, i.bytes)) = some (some (.int .i64 0), 1, 8) := by kernel_rfl
def icell' (n : Int) : List Value := [.int .i64 n]
theorem alloc_size (w : World) (o : Obj) : (w.alloc o).heap.size = w.heap.size + 1 := by simp
theorem slNew (w : World) (E : TypeId) (c : List Value) : Sl (w.alloc (.cells c.toArray E)) E c.length (.slice (some ⟨w.heap.size, 0, none⟩) 1 1) [c] := by
  refine ⟨by simp, by simp, .inr ⟨w.heap.size, _, _, rfl, Nat.zero_le _, heap_alloc_new w _, by simp, by unfold maxLen; decide, by simp, by simp⟩⟩

set_option maxHeartbeats 2000000 in
set_option maxRecDepth 100000 in
theorem holds_any (t : Ty) (ma : Option Addr) (mc : Nat) (w : World) (hm : Mbs w (.slice ma t.mem.length mc) t.mem) (h64 : t.mem.length ≤ 64) :
    Calls Tryd.prog 57 #[.agg (tyVals t (.slice ma t.mem.length mc))] w fun e w' => ∃ ov, e = .returned ov ∧ Sg w' 3 1 ov ((holdsL t).map icell') ∧ (∀ g, ov.ownBlock = some g → w.heap.size ≤ g) ∧ Kept (fun _ => False) w w' := by
  obtain ⟨kind, name, size, signed, to, count, mem⟩ := t
  obtain ⟨i0, hI0, hI1, hI2, hI3⟩ := info_parts infoI
  simp only at hm h64
  unfold holdsL
  simp only
  by_cases h5 : kind = 5 ∨ kind = 3
  · rw [if_pos h5]
    rcases h5 with rfl | rfl
    all_goals
      go_enter Tryd.func57, Tryd.ntmps57
      go_wp2
      go_ret
      exact ⟨.slice (some ⟨w.heap.size + 1, 0, none⟩) 1 1, rfl, by simpa [icell'] using (slNew (w.alloc _) 3 [.int .i64 to]).sg, by simp [Value.ownBlock], ((Kept.refl _ w).alloc _).alloc _⟩
  · rw [if_neg h5]
    by_cases h4 : kind = 4
    · rw [if_pos h4]
      subst h4
      go_enter Tryd.func57, Tryd.ntmps57
      go_wp2
      go_loopw [19, 3] (fun iv ov wr => ∃ i : Nat, iv = .int .i64 i ∧ i ≤ mem.length ∧ Sg wr 3 1 ov (((mem.map Mb.type).take i).map icell') ∧ (∀ g, ov.ownBlock = some g → w.heap.size ≤ g) ∧ Kept (fun _ => False) w wr) (fun iv _ _ => mem.length - (intOf iv).toNat)
      case atStart => exact ⟨0, rfl, Nat.zero_le _, by simpa using Sg.nil _ _ _, by simp [Value.ownBlock], (Kept.refl _ w).alloc _⟩
      case round =>
        obtain ⟨i, rfl, hi, hS, hown, hK⟩ := hrel
        by_cases hlt : i < mem.length
        case neg =>
          obtain rfl : i = mem.length := by omega
          rw [List.take_of_length_le (by simp)] at hS
          go_wp2
          go_ret
          exact ⟨_, rfl, hS, hown, hK⟩
        case pos =>
          obtain ⟨m, hmi⟩ : ∃ m, mem[i]? = some m := ⟨_, List.getElem?_eq_getElem hlt⟩
          obtain ⟨g, off, rfl, hg, c0, c1, c2⟩ := (hm.kept hK).at_ hmi
          have hlen : (((mem.map Mb.type).take i).map icell').length = i := by simp; omega
          obtain ⟨oA, oC, hov⟩ := hS.any
          rw [hlen] at hov
          subst hov
          have HL := Lib.hid hlen
          clear hlen
          go_wp2_with (at_builtin; refine wpList_pushG (w := wr.alloc (.cells #[nV m.name, .int .i64 m.type, .int .i64 m.bits] 42)) rfl (.tmp 23) (.tmp 26) 64 rfl Tryd.underlying64 hI0 hI1 hI2 hI3 rfl (by omega) (.slice oA i oC) (((mem.map Mb.type).take i).map icell') (icell' m.type) rfl (by rw [alloc_size]; rfl) ((hS.kept (F := fun _ => False) ((Kept.refl _ wr).alloc _) (fun _ _ h => h))) rfl (by simp [icell', Value.oneCell']) (by rw [HL.out]; omega) (by omega) ?_; intro g5 cap5 w5 hS5 hk5 hg5; rw [HL.out] at hS5 ⊢)
          have hK5 : Kept (fun _ => False) w w5 := (hK.alloc _).trans hk5 (fun k hk e => by have := hown k e; omega)
          have htk : (mem.map Mb.type).take (i + 1) = (mem.map Mb.type).take i ++ [m.type] := by
            rw [List.take_add_one]
            simp [hmi]
          refine ⟨⟨i + 1, by go_num, by omega, by rw [htk]; simpa [icell'] using hS5, fun g' hg' => ?_, hK5⟩, by simp [intOf]; omega⟩
          simp only [Value.ownBlock, Option.some.injEq] at hg'
          subst hg'
          rcases hg5 with e | e
          · exact hown _ e
          · have := hK.size
            simp at e
            omega
    · rw [if_neg h4]
      have e5 : (kind == 5) = false := by simp; omega
      have e3 : (kind == 3) = false := by simp; omega
      have e4 : (kind == 4) = false := by simpa using h4
      clear h5 h4
      go_enter Tryd.func57, Tryd.ntmps57
      go_wp2
      go_ret
      exact ⟨_, rfl, Sg.nil _ _ _, by simp [Value.ownBlock], (Kept.refl _ w).alloc _⟩

end Go.Proofs.YtmgdjiplpfeoiaaDoor
