import Derived.Test.YtaehmaocibimeaaRB
import Derived.Test.YtaehmaocibimeaaO2
import Derived.Deep.DeepCutAuto
set_option linter.unusedSimpArgs false
set_option linter.unusedVariables false
namespace Go.Proofs.Ytaehmaocibimeaa
open Go.RowKit

/-- both wheels, in blocks of their own -/
structure Pl (w0 w : World) (p m : Nat) (v : Value) (S : WS) (q : Nat) (u : Value) (R : RS) : Prop where
  one : One w0 w p m v S
  isr : IsR w q u R
  dis : ∀ k, fpW p m v S k → ¬ fpR q u k
  rb : ∀ k, fpR q u k → w0.heap.size ≤ k

section
variable {w0 w w' : World} {p m q : Nat} {v v' u u' : Value} {S S' : WS} {R R' : RS}
theorem Pl.stepW (h : Pl w0 w p m v S q u R) (hs : Stp w p m v S w' v' S') : Pl w0 w' p m v' S' q u R :=
  ⟨h.one.step hs, h.isr.kept hs.kept (fun k hk e => h.dis k e hk), fun k hk hr => by
    rcases hs.fp k hk with e | e
    · exact h.dis k e hr
    · have := h.isr.fp_lt hr; omega, h.rb⟩
theorem Pl.stepR (h : Pl w0 w p m v S q u R) (hs : StpR w q u w' u' R') : Pl w0 w' p m v S q u' R' :=
  ⟨h.one.other hs.kept (fun k hk e => ⟨fun e2 => h.dis k e2 e, h.rb k e⟩), hs.isr, fun k hk hr => by
    rcases hs.fp k hr with e | e
    · exact h.dis k hk e
    · have := h.one.isw.fp_lt hk; omega, fun k hk => by
    rcases hs.fp k hk with e | e
    · exact h.rb k e
    · have := h.one.kept.size; omega⟩
theorem Pl.other (h : Pl w0 w p m v S q u R) {F : Nat → Prop} (hk : Kept F w w') (hF : ∀ k, k < w.heap.size → F k → ¬ fpW p m v S k ∧ ¬ fpR q u k ∧ w0.heap.size ≤ k) : Pl w0 w' p m v S q u R :=
  ⟨h.one.other hk (fun k h1 h2 => ⟨(hF k h1 h2).1, (hF k h1 h2).2.2⟩), h.isr.kept hk (fun k hk' e => (hF k (h.isr.fp_lt hk') e).2.1 hk'), h.dis, h.rb⟩
theorem Pl.quiet (h : Pl w0 w p m v S q u R) (hk : Kept (fun _ => False) w w') : Pl w0 w' p m v S q u R := h.other hk (fun _ _ e => e.elim)
end

/-- a step of the law -/
structure St where
  what : Int
  id : Int
  n : Int
  t : Int
def St.cells (s : St) : List Value := [.int .i64 s.what, .int .i64 s.id, .int .i64 s.n, .int .u64 s.t]
/-- steps that came in -/
def InSt (w : World) (A : Option Addr) (n : Nat) (f : Nat → St) : Prop :=
  (0 < n → ∃ b off, A = some ⟨b, off, none⟩ ∧ b < w.heap.size ∧ ∀ j, j < n → ∀ k, k < 4 → w.cell? ⟨b, off + j * 4 + k, none⟩ = (f j).cells[k]?) ∧ ∀ j, 0 ≤ (f j).t ∧ (f j).t < 18446744073709551616

/-- both wheels, and the step's own block -/
structure Lo (w0 w : World) (p m : Nat) (v : Value) (S : WS) (q : Nat) (u : Value) (R : RS) (g : Nat) (s : St) : Prop where
  pl : Pl w0 w p m v S q u R
  blk : Blk w g 50 s.cells.toArray
  nw : ¬ fpW p m v S g
  nr : ¬ fpR q u g
section
variable {w0 w w' : World} {p m q g : Nat} {v v' u u' : Value} {S S' : WS} {R R' : RS} {s : St}
theorem Lo.stepW (h : Lo w0 w p m v S q u R g s) (hs : Stp w p m v S w' v' S') : Lo w0 w' p m v' S' q u R g s :=
  ⟨h.pl.stepW hs, hs.kept.blk h.nw h.blk, fun e => by
    rcases hs.fp _ e with e | e
    · exact h.nw e
    · have := h.blk.lt; omega, h.nr⟩
theorem Lo.stepR (h : Lo w0 w p m v S q u R g s) (hs : StpR w q u w' u' R') : Lo w0 w' p m v S q u' R' g s :=
  ⟨h.pl.stepR hs, hs.kept.blk h.nr h.blk, h.nw, fun e => by
    rcases hs.fp _ e with e | e
    · exact h.nr e
    · have := h.blk.lt; omega⟩
theorem Lo.quiet (h : Lo w0 w p m v S q u R g s) (hk : Kept (fun _ => False) w w') : Lo w0 w' p m v S q u R g s := ⟨h.pl.quiet hk, hk.blk (fun h => h) h.blk, h.nw, h.nr⟩
theorem Lo.drew (h : Lo w0 w p m v S q u R g s) : Lo w0 w.drew p m v S q u R g s := h.quiet (Kept.drew (Kept.refl _ w))
end

set_option maxHeartbeats 400000 in
set_option maxRecDepth 100000 in
theorem plays_long (A : Option Addr) (n c : Nat) (w : World) (h : 100 < n) (hn : n ≤ maxLen) :
    Calls Try.prog 5 #[.slice A n c] w fun e w' => e = .returned (.bool true) ∧ Below w.heap.size w w' := by
  unfold maxLen at hn
  go_enter Try.func5, Try.ntmps5
  go_wp2_with (go_at_call 6; refine (known_any w).mono ?_; rintro e w1 ⟨rfl, hk1⟩)
  go_ret
  exact ⟨rfl, hk1.below (Nat.le_refl _) (fun _ _ h => h)⟩

set_option maxHeartbeats 400000 in
theorem ints_same (va vb : Value) (L : List Int) (w : World) (ha : Sl w 3 1 va (L.map icell)) (hb : Sl w 3 1 vb (L.map icell)) (hlen : L.length ≤ 1000000000) :
    Calls Try.prog 25 #[va, vb] w fun e w' => e = .returned (.bool true) ∧ ∃ n, w' = w.drewN n := by
  obtain ⟨A, ca, rfl⟩ := ha.any
  obtain ⟨B, cb, rfl⟩ := hb.any
  simp only [List.length_map] at ha hb ⊢
  go_enter Try.func25, Try.ntmps25
  go_wp2
  go_loopw [5] (fun iv wr => ∃ k n : Nat, iv = .int .i64 k ∧ k ≤ L.length ∧ wr = w.drewN n) (fun iv _ => L.length - (intOf iv).toNat)
  case atStart => exact ⟨0, 0, rfl, Nat.zero_le _, rfl⟩
  case round =>
    obtain ⟨k, n, rfl, hk, rfl⟩ := hrel
    by_cases hlt : k < L.length
    · obtain ⟨ga, _, hva, _⟩ := ha.some_ (by simp; omega)
      obtain ⟨gb, _, hvb, _⟩ := hb.some_ (by simp; omega)
      simp only [Value.slice.injEq] at hva hvb
      obtain ⟨rfl, -, rfl⟩ := hva
      obtain ⟨rfl, -, rfl⟩ := hvb
      have a0 := ha.cell (i := k) (c := icell L[k]) (by simp [hlt]) (k := 0) (by omega)
      have b0 := hb.cell (i := k) (c := icell L[k]) (by simp [hlt]) (k := 0) (by omega)
      simp only [icell, Nat.mul_one, Nat.add_zero, List.getElem?_cons_zero] at a0 b0
      generalize L[k] = x at *
      go_wp2
      refine wp_region_mix0 [.w, .w, .w, .l, .w, .w, .w, .l, .w] (by kernel_rfl) (by kernel_rfl) ?_
      repeat (first
        | (refine mix_w1 ?_; go_big_quiet_step (fail); refine wpQuiet_nil ?_)
        | (refine mix_l1 rfl ?_; go_big_quiet_step (fail); refine wpQuiet_nil ?_))
      refine mix_nil ?_
      go_wp2
      go_roundw
      case rel => exact ⟨k + 1, n + 1, by go_num, by omega, by rw [← World.drewN_drewN]⟩
      case measure => simp [intOf]; omega
    · go_wp2
      go_ret
      exact ⟨rfl, n, rfl⟩

end Go.Proofs.Ytaehmaocibimeaa
