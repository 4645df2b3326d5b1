import Derived.Test.YtaehmaocibimeaaR3
set_option linter.unusedSimpArgs false
set_option linter.unusedVariables false
namespace Go.Proofs.Ytaehmaocibimeaa
open Go.RowKit

theorem IsR.drew {w : World} {p : Nat} {v : Value} {R : RS} (h : IsR w p v R) : IsR w.drew p v R := h.kept (F := fun _ => False) (Kept.drew (Kept.refl _ w)) (fun _ _ h => h)
theorem IsR.setCount {w : World} {p : Nat} {v : Value} {R : RS} (h : IsR w p v R) (h0 : R.count < 1000000) : IsR (w.setCell ⟨p, 2, none⟩ (.int .i64 (R.count + 1))) p v { R with count := R.count + 1 } := by
  have := h.c0
  exact ⟨h.blk.set_ 2 _, h.own.kept (Kept.setCell (F := fun k => k = p) (Kept.refl _ w) (fun _ => rfl) _) (fun g hg e => h.ne (by rw [hg, e])), h.ne, h.now0, h.now1, by show (0 : Int) ≤ R.count + 1; omega, by show R.count + 1 ≤ 1000000; omega, h.small⟩

set_option maxHeartbeats 2000000 in
theorem startR_ok (p : Nat) (v : Value) (R : RS) (id after : Int) (w : World) (h : IsR w p v R) {i : Nat} (hp : posR R.l id = some i) {t : RT} (ht : R.l[i]? = some t) (hset : t.set = true) (ha : 0 ≤ after) (ha2 : after < 18446744073709551616) (hc : R.count < 1000000) :
    Calls Try.prog 18 #[.pointer (some ⟨p, 0, none⟩), .int .i64 id, .int .u64 after] w fun e w' => e = .returned (.int .i64 0) ∧
      StpR w p v w' v { R with l := R.l.set i { t with when := capT (R.now + after), order := R.count + 1, armed := true }, count := R.count + 1 } := by
  have hi : i < R.l.length := (List.getElem?_eq_some_iff.1 ht).1
  have het : R.l[i] = t := (List.getElem?_eq_some_iff.1 ht).2
  obtain ⟨g, cap, rfl, hcap, hg⟩ := h.own.some_ (by simp; omega)
  have hgp : g ≠ p := fun e => h.ne (by simp [Value.ownBlock, e])
  have hpg : p ≠ g := fun e => hgp e.symm
  have hb := h.blk.cell
  have hfp := h.blk.frozen
  obtain ⟨x0, x1, x2, x3, x4, x5, x6⟩ := RT.cellsAt h.own hi
  rw [het] at x0 x1 x2 x3 x4 x5 x6
  rw [hset] at x3
  have hfr := h.own.frozen
  have hn0 := h.now0
  have hn1 := h.now1
  have hc0 := h.c0
  have hsm := h.small
  have hfin : ∀ u1 : Int, IsR (((((w.setCell ⟨g, i * 7 + 5, none⟩ (.int .u64 u1)).setCell ⟨g, i * 7 + 5, none⟩ (.int .u64 (capT (R.now + after)))).setCell ⟨p, 2, none⟩ (.int .i64 (R.count + 1))).setCell ⟨g, i * 7 + 6, none⟩ (.int .i64 (R.count + 1))).setCell ⟨g, i * 7 + 4, none⟩ (.bool true)) p (.slice (some ⟨g, 0, none⟩) (R.l.map RT.cells).length cap)
      { R with l := R.l.set i { t with when := capT (R.now + after), order := R.count + 1, armed := true }, count := R.count + 1 } := fun u1 => by
    have h1 := h.setE hi (k := 5) (by omega) (u := .int .u64 u1) (t' := { t with when := u1 }) (by rw [het]; rfl)
    have h2 := h1.setE (i := i) (by simpa using hi) (k := 5) (by omega) (u := .int .u64 (capT (R.now + after))) (t' := { t with when := capT (R.now + after) }) (by simp [RT.cells])
    have h3 := h2.setCount hc
    have h4 := h3.setE (i := i) (by simpa using hi) (k := 6) (by omega) (u := .int .i64 (R.count + 1)) (t' := { t with when := capT (R.now + after), order := R.count + 1 }) (by simp [RT.cells])
    have h5 := h4.setE (i := i) (by simpa using hi) (k := 4) (by omega) (u := .bool true) (t' := { t with when := capT (R.now + after), order := R.count + 1, armed := true }) (by simp [RT.cells])
    simp only [List.set_set] at h5
    exact h5
  have hfin2 : IsR ((((w.setCell ⟨g, i * 7 + 5, none⟩ (.int .u64 (capT (R.now + after)))).setCell ⟨p, 2, none⟩ (.int .i64 (R.count + 1))).setCell ⟨g, i * 7 + 6, none⟩ (.int .i64 (R.count + 1))).setCell ⟨g, i * 7 + 4, none⟩ (.bool true)) p (.slice (some ⟨g, 0, none⟩) (R.l.map RT.cells).length cap)
      { R with l := R.l.set i { t with when := capT (R.now + after), order := R.count + 1, armed := true }, count := R.count + 1 } := by
    have h2 := h.setE hi (k := 5) (by omega) (u := .int .u64 (capT (R.now + after))) (t' := { t with when := capT (R.now + after) }) (by rw [het]; rfl)
    have h3 := h2.setCount hc
    have h4 := h3.setE (i := i) (by simpa using hi) (k := 6) (by omega) (u := .int .i64 (R.count + 1)) (t' := { t with when := capT (R.now + after), order := R.count + 1 }) (by simp [RT.cells])
    have h5 := h4.setE (i := i) (by simpa using hi) (k := 4) (by omega) (u := .bool true) (t' := { t with when := capT (R.now + after), order := R.count + 1, armed := true }) (by simp [RT.cells])
    simp only [List.set_set] at h5
    exact h5
  have HF := Lib.hid hfin
  have HF2 := Lib.hid hfin2
  have HP := Lib.hid hp
  clear hfin hfin2 ht het hp
  simp only [List.length_map] at hb hcap h HF HF2 ⊢
  have kfin : ∀ w', (∃ n u, w' = ((((w.setCell ⟨g, i * 7 + 5, none⟩ u).setCell ⟨p, 2, none⟩ (.int .i64 (R.count + 1))).setCell ⟨g, i * 7 + 6, none⟩ (.int .i64 (R.count + 1))).setCell ⟨g, i * 7 + 4, none⟩ (.bool true)).drewN n) → Kept (fpR p (.slice (some ⟨g, 0, none⟩) R.l.length cap)) w w' := by
    rintro w' ⟨n, u, rfl⟩
    refine Kept.drewN ?_ n
    refine Kept.setCell (Kept.setCell (Kept.setCell (Kept.setCell (Kept.refl _ w) (fun _ => .inr rfl) _) (fun _ => .inl rfl) _) (fun _ => .inr rfl) _) (fun _ => .inr rfl) _
  have KF := Lib.hid kfin
  clear kfin
  by_cases hle : R.now + after ≤ 18446744073709551615
  · have hcap' : capT (R.now + after) = R.now + after := if_pos hle
    rw [hcap'] at HF HF2 ⊢
    have hlt : decide (R.now + after < R.now) = false := by simp; omega
    clear hcap'
    go_enter Try.func18, Try.ntmps18
    go_wp2_with (go_at_call 33; refine (find_any p _ R id w h).mono ?_; rintro e w1 ⟨rfl, rfl⟩; rw [HP.out]; simp only [posI'])
    refine wp_region_mix0 [.w, .w, .w, .l, .w, .w, .w, .w, .l, .w, .w, .w, .w, .t] (by kernel_rfl) (by kernel_rfl) ?_
    repeat (first
      | (refine mix_w1 ?_; go_big_quiet_step (fail); refine wpQuiet_nil ?_)
      | (refine mix_l1 rfl ?_; go_big_quiet_step (fail); refine wpQuiet_nil ?_)
      | (refine mix_t fun Q' hQ' => ?_; go_wp2))
    refine mix_nil ?_
    go_wp2_with fail
    refine wp_region_mix0 [.w, .w, .w, .l, .w, .w, .w, .l, .w, .w, .w, .l, .w] (by kernel_rfl) (by kernel_rfl) ?_
    repeat (first
      | (refine mix_w1 ?_; go_big_quiet_step (fail); refine wpQuiet_nil ?_)
      | (refine mix_l1 rfl ?_; go_big_quiet_step (fail); refine wpQuiet_nil ?_)
      | (refine mix_t fun Q' hQ' => ?_; go_wp2))
    refine mix_nil ?_
    go_wp2_with fail
    refine wp_region_mix0 [.w, .w, .w, .l, .w, .w, .w, .w, .l, .w, .w, .t] (by kernel_rfl) (by kernel_rfl) ?_
    repeat (first
      | (refine mix_w1 ?_; go_big_quiet_step (fail); refine wpQuiet_nil ?_)
      | (refine mix_l1 rfl ?_; go_big_quiet_step (fail); refine wpQuiet_nil ?_)
      | (refine mix_t fun Q' hQ' => ?_; go_wp2))
    refine mix_nil ?_
    go_wp2_with fail
    go_ret
    refine ⟨rfl, ?_, KF.out _ ⟨3, _, rfl⟩, fun k hk => .inl hk⟩
    exact HF2.out.drew.drew.drew
  · have hcap' : capT (R.now + after) = 18446744073709551615 := if_neg hle
    rw [hcap'] at HF HF2 ⊢
    obtain ⟨wr, hwr, hwr0, hwr1⟩ : ∃ wr : Int, IntKind.u64.wrap (R.now + after) = wr ∧ 0 ≤ wr ∧ wr < R.now := ⟨R.now + after - 18446744073709551616, by rw [IntKind.wrap_u64]; omega, by omega, by omega⟩
    have hlt : decide (wr < R.now) = true := by simpa using hwr1
    clear hcap'
    go_enter Try.func18, Try.ntmps18
    go_wp2_with (go_at_call 33; refine (find_any p _ R id w h).mono ?_; rintro e w1 ⟨rfl, rfl⟩; rw [HP.out]; simp only [posI'])
    refine wp_region_mix0 [.w, .w, .w, .l, .w, .w, .w, .w, .l, .w, .w, .w, .w, .t] (by kernel_rfl) (by kernel_rfl) ?_
    repeat (first
      | (refine mix_w1 ?_; go_big_quiet_step (fail); refine wpQuiet_nil ?_)
      | (refine mix_l1 rfl ?_; go_big_quiet_step (fail); refine wpQuiet_nil ?_)
      | (refine mix_t fun Q' hQ' => ?_; go_wp2))
    refine mix_nil ?_
    go_wp2_with fail
    refine wp_region_mix0 [.w, .w, .w, .l, .w, .w, .w, .l, .w, .w, .w, .l, .w] (by kernel_rfl) (by kernel_rfl) ?_
    repeat (first
      | (refine mix_w1 ?_; go_big_quiet_step (fail); refine wpQuiet_nil ?_)
      | (refine mix_l1 rfl ?_; go_big_quiet_step (fail); refine wpQuiet_nil ?_)
      | (refine mix_t fun Q' hQ' => ?_; go_wp2))
    refine mix_nil ?_
    go_wp2_with fail
    refine wp_region_mix0 [.w, .w, .w, .l, .w, .w, .w, .w, .l, .w, .w, .t] (by kernel_rfl) (by kernel_rfl) ?_
    repeat (first
      | (refine mix_w1 ?_; go_big_quiet_step (fail); refine wpQuiet_nil ?_)
      | (refine mix_l1 rfl ?_; go_big_quiet_step (fail); refine wpQuiet_nil ?_)
      | (refine mix_t fun Q' hQ' => ?_; go_wp2))
    refine mix_nil ?_
    go_wp2_with fail
    go_ret
    refine ⟨rfl, ?_, ?_, fun k hk => .inl hk⟩
    · exact (HF.out wr).drew.drew.drew
    · repeat (first
        | with_reducible exact Kept.refl _ w
        | with_reducible refine Kept.drew ?_
        | (with_reducible refine Kept.setCell ?_ (fun _ => Or.inr rfl) _)
        | (with_reducible refine Kept.setCell ?_ (fun _ => Or.inl rfl) _))

end Go.Proofs.Ytaehmaocibimeaa
