import Derived.Test.YtaehmaocibimeaaR4
set_option linter.unusedSimpArgs false
set_option linter.unusedVariables false
namespace Go.Proofs.Ytaehmaocibimeaa
open Go.RowKit

set_option maxHeartbeats 400000 in
theorem dropR_none (p : Nat) (v : Value) (R : RS) (id : Int) (w : World) (h : IsR w p v R) (hp : posR R.l id = none) :
    Calls Try.prog 21 #[.pointer (some ⟨p, 0, none⟩), .int .i64 id] w fun e w' => e = .returned (.tuple #[]) ∧ w = w' := by
  go_enter Try.func21, Try.ntmps21
  go_wp2_with (go_at_call 33; refine (find_any p v R id w h).mono ?_; rintro e w1 ⟨rfl, rfl⟩; rw [hp]; simp only [posI'])
  go_end0
  exact ⟨rfl, rfl⟩

theorem add_n (g o k : Nat) : (⟨g, o, none⟩ : Addr).add k = ⟨g, o + k, none⟩ := by unfold Addr.add; split <;> simp_all

theorem cutHead (g n cap i : Nat) (hi : i ≤ cap) (w : World) : (Instr.sliceAt 78 (.slice (some ⟨g, 0, none⟩) n cap) none (some (.int .i64 i)) (some (.int .i64 i))).run Try.prog w = .ok (.slice (some ⟨g, 0, none⟩) i i) w := by
  obtain ⟨i0, hI0, hI1, hI2, hI3⟩ := info_parts info82
  simp [Instr.sliceAt, Instr.slice, run_underlying Try.underlying78, Instr.sliceBounds, run_sliceBound, sizeOf, typeInfo, hI0, hi, add_n]
theorem cutTail (g n cap i : Nat) (hi : i ≤ n) : ∃ ad, (∀ w : World, (Instr.sliceAt 78 (.slice (some ⟨g, 0, none⟩) n cap) (some (.int .i64 i)) none none).run Try.prog w = .ok (.slice (some ad) (n - i) (cap - i)) w) ∧ (i < cap → ad = ⟨g, i * 7, none⟩) := by
  obtain ⟨i0, hI0, hI1, hI2, hI3⟩ := info_parts info82
  refine ⟨if cap = i then ⟨g, 0, none⟩ else ⟨g, i * 7, none⟩, fun w => ?_, fun h => if_neg (by omega)⟩
  simp [Instr.sliceAt, Instr.slice, run_underlying Try.underlying78, Instr.sliceBounds, run_sliceBound, sizeOf, typeInfo, hI0, hI2, hi]
  split <;> simp [add_n]

set_option maxHeartbeats 1000000 in
theorem dropR_some (p : Nat) (v : Value) (R : RS) (id : Int) (w : World) (h : IsR w p v R) {i : Nat} (hp : posR R.l id = some i) :
    Calls Try.prog 21 #[.pointer (some ⟨p, 0, none⟩), .int .i64 id] w fun e w' => e = .returned (.tuple #[]) ∧ ∃ v', StpR w p v w' v' { R with l := R.l.take i ++ R.l.drop (i + 1) } := by
  obtain ⟨i0, hI0, hI1, hI2, hI3⟩ := info_parts info82
  obtain ⟨hi, -⟩ := posR_at hp
  obtain ⟨g, cap, rfl, hcap, hg⟩ := h.own.some_ (by simp; omega)
  have hgp : g ≠ p := fun e => h.ne (by simp [Value.ownBlock, e])
  have hpg : p ≠ g := fun e => hgp e.symm
  have hpl := h.blk.lt
  have hb := h.blk.cell
  have hfp := h.blk.frozen
  have hsm := h.small
  have HP := Lib.hid hp
  clear hp
  simp only [List.length_map] at hb hcap h ⊢
  have hs1 := cutHead g R.l.length cap i (by omega)
  obtain ⟨ad, hs2, had⟩ := cutTail g R.l.length cap (i + 1) (by omega)
  have hci : ((i + 1 : Nat) : Int) = (i : Int) + 1 := by omega
  rw [hci] at hs2
  go_enter Try.func21, Try.ntmps21
  go_wp2_with (go_at_call 33; refine (find_any p _ R id w h).mono ?_; rintro e w1 ⟨rfl, rfl⟩; rw [HP.out]; simp only [posI'])
  refine wp_region_mix0 [.w, .w, .w, .w, .l, .w, .w, .w, .w, .w, .w, .l, .w, .w, .w, .t, .w, .w, .t] (by kernel_rfl) (by kernel_rfl) ?_
  repeat (first
    | (refine mix_w1 ?_; go_big_quiet_step (fail); refine wpQuiet_nil ?_)
    | (refine mix_l1 rfl ?_; go_big_quiet_step (fail); refine wpQuiet_nil ?_))
  refine mix_t fun Q' hQ' => ?_
  go_wp2_with (at_builtin; refine wpList_cutG (w := w.drew) rfl (.tmp 17) (.tmp 24) 78 rfl Try.underlying78 hI0 hI1 hI2 hI3 rfl (by omega) g R.l.length cap i (R.l.map RT.cells) ad _ rfl rfl (fun h => had (by omega)) (h.own.kept (F := fun _ => False) (Kept.drew (Kept.refl _ w)) (fun _ _ h => h)) hi (by simp; omega) (by omega) ?_; intro g5 cap5 w5 hS5 hk5 hg5; have hbp : Blk w5 p 80 #[.int .u64 R.now, .slice (some ⟨g, 0, none⟩) R.l.length cap, .int .i64 R.count] := hk5.blk (fun h => h) h.blk.drew; have hc5 := hbp.cell; have hf5 := hbp.frozen)
  repeat (first
    | (refine mix_w1 ?_; go_big_quiet_step (fail); refine wpQuiet_nil ?_)
    | (refine mix_t fun Q' hQ' => ?_; go_wp2))
  refine mix_nil ?_
  go_end0
  have hn5 : (Value.slice (some ⟨g5, 0, none⟩) (R.l.length - 1) cap5).ownBlock ≠ some p := by
    simp only [Value.ownBlock, ne_eq, Option.some.injEq]
    rcases hg5 with e | e
    · omega
    · have : w.heap.size ≤ g5 := e
      omega
  have hk5' : Kept (fun _ => False) w w5 := Kept.trans (Kept.drew (Kept.refl _ w)) hk5 (fun _ _ h => h)
  have hkk : Kept (fpR p (.slice (some ⟨g, 0, none⟩) R.l.length cap)) w (w5.setCell ⟨p, 1, none⟩ (.slice (some ⟨g5, 0, none⟩) (R.l.length - 1) cap5)) := (hk5'.mono (fun k _ e => e.elim)).setCell (fun _ => .inl rfl) _
  have hS6 := hS5.kept (Kept.setCell (F := fun k => k = p) (Kept.refl _ w5) (p := ⟨p, 1, none⟩) (fun _ => rfl) (.slice (some ⟨g5, 0, none⟩) (R.l.length - 1) cap5)) (fun g hg e => hn5 (by rw [hg, e]))
  refine ⟨rfl, _, ⟨hbp.set_ 1 _, by simpa [List.map_take, List.map_drop] using hS6, hn5, h.now0, h.now1, h.c0, h.c1, by simp; omega⟩, hkk, fun k hk => ?_⟩
  rcases hk with rfl | hk
  · exact .inl (.inl rfl)
  · simp only [Value.ownBlock, Option.some.injEq] at hk
    subst hk
    rcases hg5 with rfl | e
    · exact .inl (.inr rfl)
    · exact .inr e

end Go.Proofs.Ytaehmaocibimeaa
