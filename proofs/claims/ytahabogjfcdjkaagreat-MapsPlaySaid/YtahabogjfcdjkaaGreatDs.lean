import Derived.Test.YtahabogjfcdjkaaGreatDr
set_option linter.unusedSimpArgs false
set_option linter.unusedVariables false
namespace Go.Proofs.YtahabogjfcdjkaaGreat
open Go.RowKit

/-! ### one step on both: what lies in memory -/
structure Tl (b w : World) (x : Loc) (y : RLoc) (S R : MS) (L M : List Rg) (F : Nat → Prop) : Prop where
  p : Mp w x S L
  r : RMp w y R M
  ap : ∀ n, fpMp x L n → ¬ fpR y M n
  fx : ∀ n, fpMp x L n → F n ∨ b.heap.size ≤ n
  fy : ∀ n, fpR y M n → F n ∨ b.heap.size ≤ n
  kp : Kept F b w
structure Cp (b w : World) (x : Loc) (y : RLoc) (L M : List Rg) (v : Value) (l : List UInt8) : Prop where
  bs : Bs w v l
  own : ∀ n, v.ownBlock = some n → b.heap.size ≤ n ∧ ¬ fpMp x L n ∧ ¬ fpR y M n

section
variable {b w w' : World} {x x2 : Loc} {y y2 : RLoc} {S R S2 R2 : MS} {L M L2 M2 : List Rg} {F : Nat → Prop} {v u : Value} {l k : List UInt8}
theorem Tl.quiet (h : Tl b w x y S R L M F) (hk : Kept (fun _ => False) w w') : Tl b w' x y S R L M F :=
  ⟨h.p.quiet hk, h.r.quiet hk, h.ap, h.fx, h.fy, h.kp.trans hk (fun _ _ e => e.elim)⟩
theorem Tl.drew (h : Tl b w x y S R L M F) : Tl b w.drew x y S R L M F := h.quiet (Kept.drew (Kept.refl _ w))
theorem Tl.px (h : Tl b w x y S R L M F) (hp : Mp w' x2 S2 L2) (hf : ∀ n, fpMp x2 L2 n → fpMp x L n ∨ w.heap.size ≤ n) (hk : Kept (fun n => fpMp x L n) w w') : Tl b w' x2 y S2 R L2 M F where
  p := hp
  r := h.r.kept hk fun n hn hx => h.ap n hx hn
  ap := fun n hn hr => by
    rcases hf n hn with h1 | h1
    · exact h.ap n h1 hr
    · exact absurd (h.r.lt hr) (Nat.not_lt.2 h1)
  fx := fun n hn => by
    rcases hf n hn with h1 | h1
    · exact h.fx n h1
    · exact .inr (Nat.le_trans h.kp.size h1)
  fy := h.fy
  kp := h.kp.trans hk fun n hn hx => by
    rcases h.fx n hx with h1 | h1
    · exact h1
    · omega
theorem Tl.ry (h : Tl b w x y S R L M F) (hp : RMp w' y2 R2 M2) (hf : ∀ n, fpR y2 M2 n → fpR y M n ∨ w.heap.size ≤ n) (hk : Kept (fun n => fpR y M n) w w') : Tl b w' x y2 S R2 L M2 F where
  p := h.p.kept hk fun n hn hx => h.ap n hn hx
  r := hp
  ap := fun n hn hr => by
    rcases hf n hr with h1 | h1
    · exact h.ap n hn h1
    · exact absurd (h.p.lt hn) (Nat.not_lt.2 h1)
  fx := h.fx
  fy := fun n hn => by
    rcases hf n hn with h1 | h1
    · exact h.fy n h1
    · exact .inr (Nat.le_trans h.kp.size h1)
  kp := h.kp.trans hk fun n hn hx => by
    rcases h.fy n hx with h1 | h1
    · exact h1
    · omega
theorem Tl.spoil (h : Tl b w x y S R L M F) (hv : ∀ n, v.ownBlock = some n → b.heap.size ≤ n ∧ ¬ fpMp x L n ∧ ¬ fpR y M n) (hk : Kept (fun n => v.ownBlock = some n) w w') : Tl b w' x y S R L M F where
  p := h.p.kept hk fun n hn e => (hv n e).2.1 hn
  r := h.r.kept hk fun n hn e => (hv n e).2.2 hn
  ap := h.ap
  fx := h.fx
  fy := h.fy
  kp := h.kp.trans hk fun n hn e => by have := (hv n e).1; omega
/-- a value that is newer than all -/
theorem Tl.new (h : Tl b w x y S R L M F) (hn : ∀ n, v.ownBlock = some n → w.heap.size ≤ n) : ∀ n, v.ownBlock = some n → b.heap.size ≤ n ∧ ¬ fpMp x L n ∧ ¬ fpR y M n := fun n e =>
  ⟨Nat.le_trans h.kp.size (hn n e), fun hx => absurd (h.p.lt hx) (Nat.not_lt.2 (hn n e)), fun hx => absurd (h.r.lt hx) (Nat.not_lt.2 (hn n e))⟩
theorem Tl.raw (h : Tl b w x y S R L M F) {c : Value} (hr : Raw b c l) (hc : 0 < l.length → ∀ g, c.ownBlock = some g → ¬ F g) : Raw w c l := hr.kept h.kp hc
theorem Tl.rawX (h : Tl b w x y S R L M F) {c : Value} (hr : Raw b c l) (hc : 0 < l.length → ∀ g, c.ownBlock = some g → ¬ F g) : 0 < l.length → ∀ g, c.ownBlock = some g → ¬ fpR y M g := fun h0 g hg hx => by
  rcases h.fy g hx with h1 | h1
  · exact hc h0 g hg h1
  · obtain ⟨A, c', rfl, hb⟩ := hr
    exact absurd ((hb h0).lt g hg) (Nat.not_lt.2 h1)
theorem Cp.px (c : Cp b w x y L M v l) (hk : Kept (fun n => fpMp x L n) w w') (hf : ∀ n, fpMp x2 L2 n → fpMp x L n ∨ w.heap.size ≤ n) : Cp b w' x2 y L2 M v l :=
  ⟨c.bs.kept hk fun g hg => (c.own g hg).2.1, fun n hn => ⟨(c.own n hn).1, fun hx => by
    rcases hf n hx with h1 | h1
    · exact (c.own n hn).2.1 h1
    · exact absurd (c.bs.lt n hn) (Nat.not_lt.2 h1), (c.own n hn).2.2⟩⟩
theorem Cp.ry (c : Cp b w x y L M v l) (hk : Kept (fun n => fpR y M n) w w') (hf : ∀ n, fpR y2 M2 n → fpR y M n ∨ w.heap.size ≤ n) : Cp b w' x y2 L M2 v l :=
  ⟨c.bs.kept hk fun g hg => (c.own g hg).2.2, fun n hn => ⟨(c.own n hn).1, (c.own n hn).2.1, fun hx => by
    rcases hf n hx with h1 | h1
    · exact (c.own n hn).2.2 h1
    · exact absurd (c.bs.lt n hn) (Nat.not_lt.2 h1)⟩⟩
theorem Cp.quiet (c : Cp b w x y L M v l) (hk : Kept (fun _ => False) w w') : Cp b w' x y L M v l := ⟨c.bs.kept hk fun _ _ e => e, c.own⟩
theorem Cp.drew (c : Cp b w x y L M v l) : Cp b w.drew x y L M v l := c.quiet (Kept.drew (Kept.refl _ w))
theorem Cp.spoil (c : Cp b w x y L M v l) (hk : Kept (fun n => u.ownBlock = some n) w w') (hn : ∀ n, u.ownBlock = some n → v.ownBlock ≠ some n) : Cp b w' x y L M v l := ⟨c.bs.kept hk fun g hg e => hn g e hg, c.own⟩
end

section
variable {P : Program} {w : World} {ops : Array Oper} {rest : List Oper} {o : Oper} {a : Act} {Q : Exit → Act → World → Prop}
/-- 'append(s, x...)', of bytes that came in -/
theorem wpList_appendRaw (hgd : o.guard = none) (s x : Operand) (t : TypeId) (ho : o.op = .call { callee := .builtin .append, args := #[s, x], argTypes := #[t, t] })
    {i0 : TypeInfo} {z : Value} (ht : P.underlying t = some (.slice 5)) (hi : P.info? 5 = some i0) (hz : i0.zero = some z) (hsz : i0.size = 1) (hby : i0.bytes = 1) (hzs : z.cells.size = 1)
    (xv : Value) (L : List UInt8) (hs : a.eval s = .slice none 0 0) (hx : a.eval x = xv) (hb : Raw w xv L) (hlen : L.length < 1099511627776)
    (hK : ∀ v' w', Bs w' v' L → Kept (fun _ => False) w w' → (∀ g, v'.ownBlock = some g → w.heap.size ≤ g) → wpList P ops Q rest (a.put o.dst v') w') :
    wpList P ops Q (o :: rest) a w := by
  obtain ⟨A, c, rfl, hb⟩ := hb
  by_cases h0 : 0 < L.length
  · refine wpList_appendBy hgd s x t ho ht hi hz hsz hby hzs (.slice none 0 0) _ [] L hs hx (Sl.nil _ _ _) (hb h0) (by simpa using hlen) fun v' w' h1 h2 h3 _ => ?_
    exact hK v' w' h1 (h2.mono (fun k _ e => by simp [Value.ownBlock] at e)) fun g hg => by
      rcases h3 g hg with e | e
      · simp [Value.ownBlock] at e
      · exact e
  · obtain rfl : L = [] := List.eq_nil_of_length_eq_zero (by omega)
    have hr : (Builtin.append_ #[t, t] o.type #[.slice none 0 0, .slice A 0 c]).run P w = .ok (.slice none 0 0) w := by
      cases A <;> simp [Builtin.append_, run_underlying ht, sizeOf, typeInfo, hi, Builtin.lenOf, Builtin.firstCells, loadCells, loadCellsFrom, storeCells]
    refine wpList_plain hgd fun K hKK => ?_
    unfold Oper.wp
    simp only [List.length_nil] at hx
    simp [execOp, ho, resolve, invoke, builtin, hs, hx, hr, Result.andThen]
    exact hKK _ _ (hK _ w (Sl.nil _ _ _) (Kept.refl _ w) (fun g hg => by simp [Value.ownBlock] at hg))
end

end Go.Proofs.YtahabogjfcdjkaaGreat
