import Derived.Test.YtaehmaocibimeaaW4
set_option linter.unusedSimpArgs false
set_option linter.unusedVariables false
namespace Go.Proofs.Ytaehmaocibimeaa
open Go.RowKit

section
variable {P : Program} {w : World} {ops : Array Oper} {rest : List Oper} {o : Oper} {a : Act} {Q : Exit → Act → World → Prop}
theorem run_append_none' (t ty e : TypeId) (i : TypeInfo) (size : Nat) (ht : P.underlying t = some (.slice e)) (hi : P.info? e = some i)
    (v : Value) (n : Nat) (xs : List Value) (hown : w.ownsRow 0 e size v n xs) (c : Nat) : (Builtin.append_ #[t, t] ty #[v, .slice none 0 c]).run P w = .ok v w := by
  rcases hown.2 with ⟨rfl, rfl⟩ | ⟨g, cap, cur, rfl, _, _, hnc, _⟩
  · simp [Builtin.append_, run_underlying ht, sizeOf, typeInfo, hi, Builtin.lenOf, Builtin.firstCells]
  · simp [Builtin.append_, run_underlying ht, sizeOf, typeInfo, hi, Builtin.lenOf, Builtin.firstCells, hnc, storeCells]

/-- 'append(s, x...)', both rows of their own -/
theorem wpList_appendSl (hgd : o.guard = none) (s x : Operand) (t : TypeId) (ho : o.op = .call { callee := .builtin .append, args := #[s, x], argTypes := #[t, t] })
    {E sz bytes : Nat} {i0 : TypeInfo} {z : Value} (ht : P.underlying t = some (.slice E)) (hi : P.info? E = some i0) (hz : i0.zero = some z) (hsz : i0.size = sz) (hby : i0.bytes = bytes) (hzs : z.cells.size = sz) (hpos : 0 < sz)
    (v u : Value) (css dss : List (List Value)) (hs : a.eval s = v) (hx : a.eval x = u)
    (h : Sl w E sz v css) (h2 : Sl w E sz u dss) (h1 : ∀ c ∈ dss, ∀ y ∈ c, y.oneCell' = true) (hlen : css.length + dss.length ≤ 1073741824) (hb : bytes ≤ 65536)
    (hK : ∀ v' w', Sl w' E sz v' (css ++ dss) → Kept (fun k => v.ownBlock = some k) w w' → (∀ g, v'.ownBlock = some g → v.ownBlock = some g ∨ w.heap.size ≤ g) → wpList P ops Q rest (a.put o.dst v') w') :
    wpList P ops Q (o :: rest) a w := by
  refine wpList_plain hgd fun K hKK => ?_
  have hall : ∀ c ∈ css ++ dss, c.length = sz := fun c hc => by
    rcases List.mem_append.1 hc with hc | hc
    · exact h.1 c hc
    · exact h2.1 c hc
  have key : ∃ v' w', (Builtin.append_ #[t, t] o.type #[v, u]).run P w = .ok v' w' ∧ Sl w' E sz v' (css ++ dss) ∧ Kept (fun k => v.ownBlock = some k) w w' ∧ (∀ g, v'.ownBlock = some g → v.ownBlock = some g ∨ w.heap.size ≤ g) := by
    rcases h2.shape with ⟨rfl, rfl⟩ | ⟨g, cap, rfl, _, _⟩
    · exact ⟨v, w, run_append_none' t o.type E i0 sz ht hi v _ _ h.2 0, by simpa using h, Kept.refl _ w, fun g hg => .inl hg⟩
    · obtain ⟨v', w', hrun, r1, r2, _, r4⟩ := run_append_own_at (P := P) w 0 t o.type E i0 z sz bytes ht hi hz hsz hby hzs hpos v css.length css.flatten h.2 ⟨g, 0, none⟩ dss.length cap dss.flatten (flatten_len h2.1)
        (h2.2.cells (g := g) rfl) (fun y hy => by obtain ⟨c, hc, hyc⟩ := List.mem_flatten.1 hy; exact h1 c hc y hyc) (by unfold maxLen; omega)
        (by calc (css.length + dss.length) * bytes ≤ 1073741824 * 65536 := Nat.mul_le_mul hlen hb
              _ ≤ 140737488355328 := by omega) (Nat.zero_le _)
      refine ⟨v', w', hrun, ⟨hall, by simpa using r1⟩, Kept.of_grown (Kept.refl _ w) r2 (fun k hk _ => hk), fun g' hg' => ?_⟩
      rcases r4 with e | e
      · exact .inl (by rw [← e]; exact hg')
      · rw [e] at hg'; simp at hg'; exact .inr (by omega)
  obtain ⟨v', w', hrun, r1, r2, r3⟩ := key
  unfold Oper.wp
  simp [execOp, ho, resolve, invoke, builtin, hs, hx, hrun, Result.andThen]
  exact hKK _ _ (hK v' w' r1 r2 r3)
end

theorem Fd.cellsAt {w : World} {g n c : Nat} {L : List Fd} (h : Sl w 37 4 (.slice (some ⟨g, 0, none⟩) n c) (L.map Fd.cells)) {i : Nat} (hi : i < L.length) :
   w.cell? ⟨g, i * 4, none⟩ = some (.int .i64 (L[i]).id) ∧ w.cell? ⟨g, i * 4 + 1, none⟩ = some (.int .i64 (L[i]).prog) ∧ w.cell? ⟨g, i * 4 + 2, none⟩ = some (.int .i64 (L[i]).at_)
   ∧ w.cell? ⟨g, i * 4 + 3, none⟩ = some (.int .u64 (L[i]).when) := by
  have hc : (L.map Fd.cells)[i]? = some (L[i]).cells := by simp [hi]
  exact ⟨h.cell hc (k := 0) (by omega), h.cell hc (k := 1) (by omega), h.cell hc (k := 2) (by omega), h.cell hc (k := 3) (by omega)⟩

set_option maxHeartbeats 400000 in
theorem start_none (p m : Nat) (v : Value) (S : WS) (id after : Int) (w : World) (h : IsW w p m v S) {g : Nat} {t : Tm} (hl : lookI S.all id = some (g, t)) (ht : t.has = false) :
    Calls Try.prog 10 #[.pointer (some ⟨p, 0, none⟩), .int .i64 id, .int .u64 after] w fun e w' => e = .returned (.int .i64 120) ∧ w = w' := by
  have hp := h.blk.lt
  have hb := h.blk.cell
  have hlk := h.map.look2 (P := Try.prog) Try.underlying62 Try.underlying3 zero67 id
  rw [look_ptrs, hl] at hlk
  have hgc := (h.tms _ (look_mem hl)).cell
  simp only [Tm.cells, ht] at hgc
  simp only [Option.map_some, Option.getD_some, Option.isSome_some] at hlk
  go_enter Try.func10, Try.ntmps10
  go_wp2
  go_ret
  exact ⟨rfl, rfl⟩

set_option maxHeartbeats 400000 in
theorem fired_same (va vb : Value) (L : List Fd) (w : World) (ha : Sl w 37 4 va (L.map Fd.cells)) (hb : Sl w 37 4 vb (L.map Fd.cells)) (hlen : L.length ≤ 1000000000) :
    Calls Try.prog 12 #[va, vb] w fun e w' => e = .returned (.bool true) ∧ ∃ n, w' = w.drewN n := by
  obtain ⟨A, ca, rfl⟩ := ha.any
  obtain ⟨B, cb, rfl⟩ := hb.any
  simp only [List.length_map] at ha hb ⊢
  go_enter Try.func12, Try.ntmps12
  go_wp2
  go_loopw [5] (fun iv wr => ∃ k n : Nat, iv = .int .i64 k ∧ k ≤ L.length ∧ wr = w.drewN n) (fun iv _ => L.length - (intOf iv).toNat)
  case atStart => exact ⟨0, 0, rfl, Nat.zero_le _, rfl⟩
  case round =>
    obtain ⟨k, n, rfl, hk, rfl⟩ := hrel
    by_cases hlt : k < L.length
    · obtain ⟨ga, _, hva, _⟩ := ha.some_ (by simp; omega)
      obtain ⟨gb, _, hvb, _⟩ := hb.some_ (by simp; omega)
      simp only [Value.slice.injEq] at hva hvb
      obtain ⟨rfl, -, rfl⟩ := hva
      obtain ⟨rfl, -, rfl⟩ := hvb
      obtain ⟨a0, a1, a2, a3⟩ := Fd.cellsAt ha hlt
      obtain ⟨b0, b1, b2, b3⟩ := Fd.cellsAt hb hlt
      generalize L[k] = x at *
      go_wp2
      refine wp_region_mix0 [.w, .w, .w, .l, .w, .w, .w, .l, .w] (by kernel_rfl) (by kernel_rfl) ?_
      repeat (first
        | (refine mix_w1 ?_; go_big_quiet_step (fail); refine wpQuiet_nil ?_)
        | (refine mix_l1 rfl ?_; go_big_quiet_step (fail); refine wpQuiet_nil ?_))
      refine mix_nil ?_
      go_wp2
      go_roundw
      case rel => exact ⟨k + 1, n + 1, by go_num, by omega, by rw [← World.drewN_drewN]⟩
      case measure => simp [intOf]; omega
    · go_wp2
      go_ret
      exact ⟨rfl, n, rfl⟩

end Go.Proofs.Ytaehmaocibimeaa
