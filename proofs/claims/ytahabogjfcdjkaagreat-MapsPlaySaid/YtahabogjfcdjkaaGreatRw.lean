import Derived.Test.YtahabogjfcdjkaaGreatRg
set_option linter.unusedSimpArgs false
set_option linter.unusedVariables false
namespace Go.Proofs.YtahabogjfcdjkaaGreat
open Go.RowKit

theorem infoU8 : (Tryz.prog.info? 5).map (fun i => (i.zero, i.size, i.bytes)) = some (some (.int .u8 0), 1, 1) := by kernel_rfl
theorem infoArea : (Tryz.prog.info? 96).map (fun i => (i.zero, i.size, i.bytes)) = some (some .nilIface, 1, 16) := by kernel_rfl
theorem Bs.news (w : World) : Bs (w.alloc (.cells #[] 5)) (.slice (some ⟨w.heap.size, 0, none⟩) 0 0) [] :=
  ⟨by simp, by simp, .inr ⟨w.heap.size, 0, #[], rfl, Nat.zero_le _, heap_alloc_new w _, Nat.le_refl _, by unfold maxLen; omega, rfl, rfl⟩⟩
theorem eqSlU8 : ∀ (w : World) (r : Option Addr) (n c : Nat), (binOp .eql 39 (.slice r n c) (.slice none 0 0)).run Tryz.prog w = .ok (.bool r.isNone) w := fun w r n c => Lib.run_eql_slice_nil w 39 5 r n c 0 0 Tryz.underlying39

set_option maxHeartbeats 400000 in
theorem clone_any (v : Value) (l : List UInt8) (w : World) (h : By w v l) (hs : l.length ≤ 1000000000) :
    Calls Tryz.prog 40 #[v] w fun e w' => ∃ ov, e = .returned ov ∧ Bs w' ov l ∧ (∀ g, ov.ownBlock = some g → w.heap.size ≤ g) ∧ Kept (fun _ => False) w w' := by
  obtain ⟨i0, hI0, hI1, hI2, hI3⟩ := info_parts infoU8
  have q := eqSlU8
  rcases h with ⟨c, rfl, rfl⟩ | ⟨b, off, c, rfl, hb, hcp, hc⟩
  · go_enter Tryz.func40, Tryz.ntmps40
    go_wp2_with fail
    go_ret
    exact ⟨_, rfl, Sl.nil _ _ _, by simp [Value.ownBlock], Kept.refl _ w⟩
  · have hB : By w (.slice (some ⟨b, off, none⟩) l.length c) l := .inr ⟨b, off, c, rfl, hb, hcp, hc⟩
    clear hc hcp
    go_enter Tryz.func40, Tryz.ntmps40
    go_wp2_with (at_builtin; refine wpList_appendBy (w := w.alloc (.cells #[] 5)) rfl (.tmp 5) (.tmp 6) 39 rfl Tryz.underlying39 hI0 hI1 hI2 hI3 rfl (.slice (some ⟨w.heap.size, 0, none⟩) 0 0) _ [] l rfl rfl (Bs.news w) (hB.alloc _) (by simp; omega) ?_; intro v5 w5 hS5 hk5 hv5 hn5)
    go_ret
    refine ⟨_, rfl, hS5, fun g' hg' => ?_, Kept.trans (Kept.alloc (Kept.refl _ w) _) hk5 (fun x hx e => ?_)⟩
    · rcases hv5 g' hg' with e | e
      · simp only [Value.ownBlock, Option.some.injEq] at e
        omega
      · have : w.heap.size + 1 ≤ g' := by simpa using e
        omega
    · simp only [Value.ownBlock, Option.some.injEq] at e
      omega

theorem memNew_any (w : World) : Calls Tryz.prog 6 #[] w fun e w' => e = .returned (.pointer (some ⟨w.heap.size, 0, none⟩)) ∧ IsMem w' w.heap.size (.slice none 0 0) [] ∧ blM w.heap.size (.slice none 0 0) [] = [w.heap.size] ∧ Kept (fun _ => False) w w' ∧ w.heap.size < w'.heap.size := by
  go_enter Tryz.func6, Tryz.ntmps6
  go_wp2
  go_ret
  exact ⟨rfl, ⟨Blk.new w _ _, Sl.nil _ _ _, by simp, by simp [blM, ob, Value.ownBlock], by simp⟩, by simp [blM, ob, Value.ownBlock], Kept.alloc (Kept.refl _ w) _, by simp⟩

theorem IsMem.aCell {w : World} {p g n c : Nat} {L : List Rg} (h : IsMem w p (.slice (some ⟨g, 0, none⟩) n c) L) {i : Nat} {r : Rg} (hi : L[i]? = some r) : w.cell? ⟨g, i, none⟩ = some (.iface 93 (.pointer (some ⟨r.g, 0, none⟩))) := by
  have := h.own.cell (i := i) (c := acell r) (by simp [hi]) (k := 0) (by omega)
  rw [Nat.mul_one, Nat.add_zero] at this
  exact this

set_option maxHeartbeats 400000 in
theorem at_in (p : Nat) (v : Value) (L : List Rg) (i : Nat) (w : World) (h : IsMem w p v L) {r : Rg} (hi : L[i]? = some r) :
    Calls Tryz.prog 39 #[.pointer (some ⟨p, 0, none⟩), .int .i64 ((i : Int) + 1)] w fun e w' => e = .returned (.iface 93 (.pointer (some ⟨r.g, 0, none⟩))) ∧ w = w' := by
  have hil : i < L.length := (List.getElem?_eq_some_iff.1 hi).1
  obtain ⟨g, cap, rfl, hcap, hg⟩ := h.own.some_ (by simp; omega)
  have hac := h.aCell hi
  have hb := h.blk.cell
  have hsm := h.small
  simp only [List.length_map] at hb hcap
  go_enter Tryz.func39, Tryz.ntmps39
  go_wp2
  go_ret
  exact ⟨rfl, rfl⟩

set_option maxHeartbeats 400000 in
theorem at_out (p : Nat) (v : Value) (L : List Rg) (id : Int) (w : World) (h : IsMem w p v L) (hi : id < 1 ∨ (L.length : Int) < id) :
    Calls Tryz.prog 39 #[.pointer (some ⟨p, 0, none⟩), .int .i64 id] w fun e w' => e = .returned .nilIface ∧ w = w' := by
  obtain ⟨A, c, rfl⟩ := h.own.any
  have hb := h.blk.cell
  have hsm := h.small
  simp only [List.length_map] at hb
  by_cases h1 : id < 1
  · go_enter Tryz.func39, Tryz.ntmps39
    go_wp2
    go_ret
    exact ⟨rfl, rfl⟩
  · have h2 : (L.length : Int) < id := by omega
    clear hi
    go_enter Tryz.func39, Tryz.ntmps39
    go_wp2
    go_ret
    exact ⟨rfl, rfl⟩

theorem taRg : ∀ (v : Value) (w : World), (Instr.typeAssert (.iface 93 v) 96 93 true).run Tryz.prog w = .ok (.tuple #[v, .bool true]) w := fun v w => by kernel_rfl
theorem taNil : ∀ (w : World), (Instr.typeAssert .nilIface 96 93 true).run Tryz.prog w = .ok (.tuple #[.pointer none, .bool false]) w := fun w => by kernel_rfl

set_option maxHeartbeats 400000 in
theorem bytes_in (p : Nat) (v : Value) (L : List Rg) (i : Nat) (w : World) (h : IsMem w p v L) {r : Rg} (hi : L[i]? = some r) :
    Calls Tryz.prog 11 #[.pointer (some ⟨p, 0, none⟩), .int .i64 ((i : Int) + 1)] w fun e w' => ∃ ov, e = .returned (.tuple #[ov, .bool true]) ∧ Bs w' ov r.b ∧ (∀ g, ov.ownBlock = some g → w.heap.size ≤ g) ∧ Kept (fun _ => False) w w' := by
  have hm := h.rg r (List.mem_of_getElem? hi)
  have hrc := hm.1.cell
  simp only [Rg.cells] at hrc
  have hta := taRg
  go_enter Tryz.func11, Tryz.ntmps11
  go_wp2_with (first
    | (go_at_call 39; refine (at_in p v L i w h hi).mono ?_; rintro e w1 ⟨rfl, rfl⟩)
    | (go_at_call 40; refine (clone_any r.bv r.b w hm.2.1.by_ (by have := hm.2.2; omega)).mono ?_; rintro e w1 ⟨ov, rfl, hO, hOb, hk⟩))
  go_ret2
  exact ⟨_, rfl, hO, hOb, hk⟩

set_option maxHeartbeats 400000 in
theorem bytes_out (p : Nat) (v : Value) (L : List Rg) (id : Int) (w : World) (h : IsMem w p v L) (hi : id < 1 ∨ (L.length : Int) < id) :
    Calls Tryz.prog 11 #[.pointer (some ⟨p, 0, none⟩), .int .i64 id] w fun e w' => e = .returned (.tuple #[.slice none 0 0, .bool false]) ∧ w = w' := by
  have hta := taNil
  go_enter Tryz.func11, Tryz.ntmps11
  go_wp2_with (go_at_call 39; refine (at_out p v L id w h hi).mono ?_; rintro e w1 ⟨rfl, rfl⟩)
  go_ret2
  exact ⟨rfl, rfl⟩

end Go.Proofs.YtahabogjfcdjkaaGreat
