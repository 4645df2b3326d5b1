import Derived.Orders
import Derived.Deep.Quiet
import Derived.Deep.Draws
import Derived.Tactics
import Derived.KernelRfl
set_option linter.unusedSimpArgs false
set_option linter.unusedVariables false
namespace Go.Proofs.YtdchmelgaljpfaaGreat

/-- the kinds of an operation in a region that draws its order: w: one value in every world; l: one value in every world of the class, the world stays; k: keeps the class; t: anything -/
inductive Kd where
  | w | l | k | t
  deriving DecidableEq

/-- an operation that, where it goes through, hands back a value -/
def isV : Op → Bool
  | .move _ | .assign _ | .pick .. | .load .. | .binOp .. | .unOp .. | .convert .. | .makeInterface .. | .slice .. | .fieldAddr .. | .field .. | .indexAddr .. | .index .. | .lookup .. | .typeAssert .. | .extract .. | .build .. | .nilCheck _ | .makeFunc .. => true
  | .call c => match c.callee with
    | .builtin .len | .builtin .cap | .builtin .min | .builtin .max => true
    | _ => false
  | _ => false

theorem run_v {P : Program} {s : Sem Value} {w w' : World} {n : Next} (h : (do pure (Next.value (← s)) : Sem Next).run P w = .ok n w') : ∃ v, n = .value v := by
  rw [Sem.run_bind] at h
  cases hr : s.run P w with
  | ok v w1 => rw [hr] at h; simp [Result.andThen] at h; exact ⟨v, h.1.symm⟩
  | halt x w1 => rw [hr] at h; simp [Result.andThen] at h

theorem nilDeref_no {α : Type} {P : Program} {w w' : World} {n : α} (h : (runtimePanic (α := α) .nilDeref).run P w = .ok n w') : False := by
  unfold runtimePanic at h
  simp [goPanic] at h

theorem isV_value {P : Program} {ρ : Operand → Value} {o : Oper} (ho : isV o.op = true) {w w' : World} {n : Next} (h : (execOp ρ o).run P w = .ok n w') : ∃ v, n = .value v := by
  obtain ⟨dst, op, type, pos, after, guard⟩ := o
  cases op <;> simp only [isV] at ho <;> first | (exact absurd ho (by decide)) | skip
  all_goals simp only [execOp] at h
  case nilCheck x =>
    split at h
    · exact (nilDeref_no h).elim
    · exact (nilDeref_no h).elim
    · exact (nilDeref_no h).elim
    · split at h
      · exact (nilDeref_no h).elim
      · rw [Sem.run_bind] at h
        generalize (Sem.run P program w) = r at h
        cases r with
        | ok p w1 =>
          simp only [Result.andThen] at h
          rw [Sem.run_bind] at h
          generalize (Sem.run P _ w1) = r2 at h
          cases r2 with
          | ok b w2 =>
            simp only [Result.andThen] at h
            split at h
            · simp [unsupported] at h
            · simp at h; exact ⟨_, h.1.symm⟩
          | halt x w2 => simp [Result.andThen] at h
        | halt x w1 => simp [Result.andThen] at h
      · simp at h; exact ⟨_, h.1.symm⟩
    · simp at h; exact ⟨_, h.1.symm⟩
  case call c =>
    obtain ⟨callee, args, argTypes⟩ := c
    cases callee with
    | value f => simp at ho
    | invoke r m => simp at ho
    | builtin b =>
      cases b <;> simp at ho <;> simp [resolve, invoke, builtin] at h
      all_goals
        generalize (Sem.run P _ w) = r at h
        cases r with
        | ok v w1 => simp [Result.andThen] at h; exact ⟨_, h.1.symm⟩
        | halt x w1 => simp [Result.andThen] at h
  case move x => simp at h; exact ⟨_, h.1.symm⟩
  case assign x => simp at h; exact ⟨_, h.1.symm⟩
  case pick c a b =>
    rw [Sem.run_bind] at h
    cases hr : (asBool (ρ c)).run P w with
    | ok v w1 => rw [hr] at h; simp [Result.andThen] at h; exact ⟨_, h.1.symm⟩
    | halt x w1 => rw [hr] at h; simp [Result.andThen] at h
  all_goals exact run_v h

section
variable {P : Program} {ops : Array Oper} {C : World → Prop} {Q : Exit → Act → World → Prop}

/-- Q at the normal end, nothing else -/
def Only (Q : Exit → Act → World → Prop) : Exit → Act → World → Prop
  | .normal, a, w => Q .normal a w
  | _, _, _ => False

theorem Only.imp : ∀ (e : Exit) (a : Act) (w : World), Only Q e a w → Q e a w := fun e a w h => by
  cases e <;> first | exact h | exact (h : False).elim

/-- one operation, by its kind -/
def stepX (P : Program) (ops : Array Oper) (C : World → Prop) (kd : Kd) (o : Oper) (K : Act → World → Prop) (a : Act) (w : World) : Prop :=
  match kd with
  | .w => if Region.wanted o (yielded ops a.tmps) then o.quiet P a (fun _ => True) (fun a' => K a' w) else K (a.put o.dst undef) w
  | .l => if Region.wanted o (yielded ops a.tmps) then C w ∧ o.quiet P a C (fun a' => K a' w) else K (a.put o.dst undef) w
  | .k => if Region.wanted o (yielded ops a.tmps) then C w ∧ o.wp P a w (fun a' w' => C w' ∧ K a' w') (Only fun _ _ _ => False) else K (a.put o.dst undef) w
  | .t => if Region.wanted o (yielded ops a.tmps) then o.wp P a w K (Only fun _ _ _ => False) else K (a.put o.dst undef) w

/-- the region's operations in the order of the text -/
def wpMix (P : Program) (ops : Array Oper) (C : World → Prop) (K : Act → World → Prop) : List Kd → List Oper → Act → World → Prop
  | kd :: ks, o :: rest, a, w => stepX P ops C kd o (wpMix P ops C K ks rest) a w
  | _, _, a, w => K a w

/-- wl-kinds hand back values -/
def okKd (kd : Kd) (o : Oper) : Bool :=
  match kd with
  | .w | .l => isV o.op
  | _ => true

theorem quiet_value {o : Oper} (hv : isV o.op = true) {a : Act} {D : World → Prop} {w : World} {v : Value} (h : o.quietAt P a D w v) : (execOp a.eval o).run P w = .ok (.value v) w := by
  unfold Oper.quietAt at h
  cases hr : (execOp a.eval o).run P w with
  | ok n w' =>
    obtain ⟨u, rfl⟩ := isV_value hv hr
    rw [hr] at h
    simp only [Oper.quietUpon] at h
    obtain ⟨rfl, rfl⟩ := h
    rfl
  | halt x w' => rw [hr] at h; simp only [Oper.quietUpon] at h

/-- what an operation of kind w or l leaves, in every world of the class -/
def Vals (P : Program) (D : World → Prop) (o : Oper) (a : Act) (v : Value) : Prop := ∀ w, D w → (execOp a.eval o).run P w = .ok (.value v) w

theorem vals_of_quiet {o : Oper} (hv : isV o.op = true) {a : Act} {D : World → Prop} {K : Act → Prop} (h : o.quiet P a D K) : ∃ v, Vals P D o a v ∧ K (a.put o.dst v) := by
  obtain ⟨v, h1, h2⟩ := h
  exact ⟨v, fun w hw => quiet_value hv (h1 w hw), h2⟩

/-- the same, said by values alone -/
def stepV (P : Program) (ops : Array Oper) (C : World → Prop) (kd : Kd) (o : Oper) (K : Act → World → Prop) (a : Act) (w : World) : Prop :=
  if Region.wanted o (yielded ops a.tmps) then
    match kd with
    | .w => ∃ v, Vals P (fun _ => True) o a v ∧ K (a.put o.dst v) w
    | .l => C w ∧ ∃ v, Vals P C o a v ∧ K (a.put o.dst v) w
    | .k => C w ∧ o.wp P a w (fun a' w' => C w' ∧ K a' w') (Only fun _ _ _ => False)
    | .t => o.wp P a w K (Only fun _ _ _ => False)
  else K (a.put o.dst undef) w

theorem stepV_of_X {kd : Kd} {o : Oper} (hk : okKd kd o = true) {K : Act → World → Prop} {a : Act} {w : World} (h : stepX P ops C kd o K a w) : stepV P ops C kd o K a w := by
  unfold stepV
  cases kd <;> simp only [stepX] at h <;> split at h <;> rename_i hw <;> simp only [hw, if_true, if_false, Bool.false_eq_true]
  · exact vals_of_quiet hk h
  · exact h
  · exact ⟨h.1, vals_of_quiet hk h.2⟩
  · exact h
  · exact h
  · exact h
  · exact h
  · exact h

theorem stepV_mono {kd : Kd} {o : Oper} {K K' : Act → World → Prop} (hK : ∀ a w, K a w → K' a w) {a : Act} {w : World} (h : stepV P ops C kd o K a w) : stepV P ops C kd o K' a w := by
  unfold stepV at *
  split
  · rename_i hw
    simp only [hw, if_true] at h
    cases kd with
    | w => obtain ⟨v, h1, h2⟩ := h; exact ⟨v, h1, hK _ _ h2⟩
    | l => obtain ⟨h0, v, h1, h2⟩ := h; exact ⟨h0, v, h1, hK _ _ h2⟩
    | k => exact ⟨h.1, Oper.wp_mono (fun a w h => ⟨h.1, hK _ _ h.2⟩) h.2⟩
    | t => exact Oper.wp_mono hK h
  · rename_i hw
    simp only [hw] at h
    exact hK _ _ h

/-- where an operation goes through, it comes somewhere -/
theorem wp_comes {o : Oper} {a : Act} {w : World} {K : Act → World → Prop} (h : o.wp P a w K (Only fun _ _ _ => False)) : ∃ a' w', K a' w' ∧ ((∃ v, a' = a.put o.dst v) ∨ ∃ d v, a' = ({ a with defers := d :: a.defers } : Act).put o.dst v) := by
  unfold Oper.wp at h
  generalize (execOp a.eval o).run P w = r at h
  cases r with
  | ok n w' =>
    cases n <;> simp only [Oper.upon] at h
    case value v => exact ⟨_, _, h, .inl ⟨v, rfl⟩⟩
    case skip => exact ⟨_, _, h, .inl ⟨_, rfl⟩⟩
    case defer d => exact ⟨_, _, h, .inr ⟨d, _, rfl⟩⟩
    case enter f args =>
      obtain ⟨e, w2, fr, hR, _⟩ := h []
      cases e with
      | returned v => exact ⟨_, _, hR, .inl ⟨v, rfl⟩⟩
      | panicked c => exact (hR : False).elim
      | outgrown => obtain ⟨_, _, hf⟩ := hR; exact (hf : False).elim
    case row row args =>
      obtain ⟨v, w2, hR, _⟩ := h default []
      exact ⟨_, _, hR, .inl ⟨v, rfl⟩⟩
  | halt x w' =>
    cases x <;> simp only [Oper.upon] at h
    case panic v => exact (h : False).elim

/-- wp with the operands seen from another frame -/
theorem wp_put {oi oj : Oper} {v : Value} {a : Act} {w : World} {K : Act → World → Prop}
    (hap : oi.apart ops oj = true) (hsj : ∀ cs b, oj.op ≠ .select cs b)
    (h : oj.wp P (a.put oi.dst v) w K (Only fun _ _ _ => False)) : oj.wp P a w (fun a' w' => K (a'.put oi.dst v) w') (Only fun _ _ _ => False) := by
  obtain ⟨h1, h2, h3⟩ := Oper.apart_spec hap
  unfold Oper.wp at *
  rw [execOp_put oj hsj a oi.dst v h1] at h
  generalize (execOp a.eval oj).run P w = r at *
  cases r with
  | ok n w' =>
    cases n <;> simp only [Oper.upon] at h ⊢
    case value u => rw [← Act.put_comm a v u h2]; exact h
    case skip => rw [← Act.put_comm a v undef h2]; exact h
    case defer d =>
      rw [← Act.put_comm _ v undef h2, ← Act.put_defers]
      exact h
    case enter f args =>
      refine Calls.mono h fun e w'' he => ?_
      cases e with
      | returned u => simp only at he ⊢; rw [← Act.put_comm a v u h2]; exact he
      | panicked c => exact he
      | outgrown => exact he
    case row row args => exact Rows.mono h fun u w'' he => by rw [← Act.put_comm a v u h2]; exact he
  | halt x w' =>
    cases x <;> simp only [Oper.upon] at h ⊢
    case panic u => exact h

/-- .. and the other way -/
theorem wp_unput {oi oj : Oper} {v : Value} {a : Act} {w : World} {K : Act → World → Prop}
    (hap : oi.apart ops oj = true) (hsj : ∀ cs b, oj.op ≠ .select cs b)
    (h : oj.wp P a w (fun a' w' => K (a'.put oi.dst v) w') (Only fun _ _ _ => False)) : oj.wp P (a.put oi.dst v) w K (Only fun _ _ _ => False) := by
  obtain ⟨h1, h2, h3⟩ := Oper.apart_spec hap
  unfold Oper.wp at *
  rw [execOp_put oj hsj a oi.dst v h1]
  generalize (execOp a.eval oj).run P w = r at *
  cases r with
  | ok n w' =>
    cases n <;> simp only [Oper.upon] at h ⊢
    case value u => rw [Act.put_comm a v u h2]; exact h
    case skip => rw [Act.put_comm a v undef h2]; exact h
    case defer d =>
      rw [Act.put_defers, Act.put_comm _ v undef h2]
      exact h
    case enter f args =>
      refine Calls.mono h fun e w'' he => ?_
      cases e with
      | returned u => simp only at he ⊢; rw [Act.put_comm a v u h2]; exact he
      | panicked c => exact he
      | outgrown => exact he
    case row row args => exact Rows.mono h fun u w'' he => by rw [Act.put_comm a v u h2]; exact he
  | halt x w' =>
    cases x <;> simp only [Oper.upon] at h ⊢
    case panic u => exact h

theorem Vals.put {D : World → Prop} {oi oj : Oper} {v u : Value} {a : Act} (hap : oi.apart ops oj = true) (hsi : ∀ cs b, oi.op ≠ .select cs b) :
    Vals P D oi (a.put oj.dst u) v ↔ Vals P D oi a v := by
  obtain ⟨h1, h2, h3⟩ := Oper.apart_spec hap
  unfold Vals
  rw [execOp_put oi hsi a oj.dst u h3]

theorem Vals.defer {D : World → Prop} {oi : Oper} {v : Value} {a : Act} {d : Deferred} : Vals P D oi ({ a with defers := d :: a.defers } : Act) v ↔ Vals P D oi a v := Iff.rfl

theorem Vals.uniq {D : World → Prop} {o : Oper} {a : Act} {v u : Value} (h1 : Vals P D o a v) (h2 : Vals P D o a u) {w : World} (hw : D w) : v = u := by
  have := (h1 w hw).symm.trans (h2 w hw)
  simpa using this

/-- may these two change places? (i stands ahead of j in the text) -/
def pairOk (ki kj : Kd) : Bool :=
  match ki, kj with
  | .w, _ | _, .w => true
  | .l, .l | .l, .k | .k, .l => true
  | _, _ => false

theorem apart_symm {x y : Oper} (h : x.apart ops y = true) : y.apart ops x = true := by
  obtain ⟨h1, h2, h3⟩ := Oper.apart_spec h
  unfold Oper.apart
  cases hx : x.dst with
  | none =>
    cases hy : y.dst with
    | none => rfl
    | some e => simpa using h3 e hy
  | some d =>
    cases hy : y.dst with
    | none => simpa using h1 d hx
    | some e =>
      have hd := h1 d hx
      have he := h3 e hy
      have hne := h2 d hx
      rw [hy] at hne
      simp only [ne_eq, Option.some.injEq] at hne
      simp [hd, he]
      exact fun e' => hne e'.symm

theorem Vals.through {D : World → Prop} {oi oj : Oper} {v : Value} {a a' : Act} (hap : oi.apart ops oj = true) (hsi : ∀ cs b, oi.op ≠ .select cs b)
    (hc : (∃ u, a' = a.put oj.dst u) ∨ ∃ d u, a' = ({ a with defers := d :: a.defers } : Act).put oj.dst u) : Vals P D oi a' v ↔ Vals P D oi a v := by
  rcases hc with ⟨u, rfl⟩ | ⟨d, u, rfl⟩
  · exact Vals.put hap hsi
  · exact (Vals.put (a := ({ a with defers := d :: a.defers } : Act)) hap hsi).trans Iff.rfl

theorem wanted_through {oi oj : Oper} {a a' : Act} (hap : oi.apart ops oj = true)
    (hc : (∃ u, a' = a.put oj.dst u) ∨ ∃ d u, a' = ({ a with defers := d :: a.defers } : Act).put oj.dst u) : Region.wanted oi (yielded ops a'.tmps) = Region.wanted oi (yielded ops a.tmps) := by
  obtain ⟨h1, h2, h3⟩ := Oper.apart_spec hap
  rcases hc with ⟨u, rfl⟩ | ⟨d, u, rfl⟩
  · exact wanted_put oi a oj.dst u h3
  · exact wanted_put oi ({ a with defers := d :: a.defers } : Act) oj.dst u h3

/-- wp, with what is known of the frame it comes to -/
theorem wp_frames {o : Oper} {a : Act} {w : World} {K : Act → World → Prop} (h : o.wp P a w K (Only fun _ _ _ => False)) :
    o.wp P a w (fun a' w' => K a' w' ∧ ((∃ v, a' = a.put o.dst v) ∨ ∃ d v, a' = ({ a with defers := d :: a.defers } : Act).put o.dst v)) (Only fun _ _ _ => False) := by
  unfold Oper.wp at *
  generalize (execOp a.eval o).run P w = r at *
  cases r with
  | ok n w' =>
    cases n <;> simp only [Oper.upon] at h ⊢
    case value u => exact ⟨h, .inl ⟨u, rfl⟩⟩
    case skip => exact ⟨h, .inl ⟨_, rfl⟩⟩
    case defer d => exact ⟨h, .inr ⟨d, _, rfl⟩⟩
    case enter f args =>
      refine Calls.mono h fun e w'' he => ?_
      cases e with
      | returned u => exact ⟨he, .inl ⟨u, rfl⟩⟩
      | panicked c => exact he
      | outgrown => exact he
    case row row args => exact Rows.mono h fun u w'' he => ⟨he, .inl ⟨u, rfl⟩⟩
  | halt x w' =>
    cases x <;> simp only [Oper.upon] at h ⊢
    case panic u => exact h

/-- where the guard says no -/
theorem swap_skip_i {ki kj : Kd} {oi oj : Oper} (hap : oi.apart ops oj = true) (hsj : ∀ cs b, oj.op ≠ .select cs b)
    {K : Act → World → Prop} {a : Act} {w : World} (hi : Region.wanted oi (yielded ops a.tmps) = false)
    (h : stepV P ops C kj oj K (a.put oi.dst undef) w) : stepV P ops C kj oj (stepV P ops C ki oi K) a w := by
  obtain ⟨h1, h2, h3⟩ := Oper.apart_spec hap
  have on : ∀ (a' : Act) (w' : World), ((∃ u, a' = a.put oj.dst u) ∨ ∃ d u, a' = ({ a with defers := d :: a.defers } : Act).put oj.dst u) → K (a'.put oi.dst undef) w' → stepV P ops C ki oi K a' w' := by
    intro a' w' hc hK
    unfold stepV
    rw [wanted_through hap hc, hi]
    exact hK
  unfold stepV at h
  rw [wanted_put oj a oi.dst undef h1] at h
  unfold stepV
  split
  · rename_i hw
    simp only [hw, if_true] at h
    cases kj with
    | w =>
      obtain ⟨v, hv, hK⟩ := h
      refine ⟨v, (Vals.put (apart_symm hap) hsj).1 hv, on _ _ (.inl ⟨v, rfl⟩) ?_⟩
      rw [← Act.put_comm a undef v h2]
      exact hK
    | l =>
      obtain ⟨h0, v, hv, hK⟩ := h
      refine ⟨h0, v, (Vals.put (apart_symm hap) hsj).1 hv, on _ _ (.inl ⟨v, rfl⟩) ?_⟩
      rw [← Act.put_comm a undef v h2]
      exact hK
    | k => exact ⟨h.1, Oper.wp_mono (fun a' w' h => ⟨h.1.1, on _ _ h.2 h.1.2⟩) (wp_frames (wp_put hap hsj h.2))⟩
    | t => exact Oper.wp_mono (fun a' w' h => on _ _ h.2 h.1) (wp_frames (wp_put hap hsj h))
  · rename_i hw
    simp only [hw] at h
    refine on _ _ (.inl ⟨undef, rfl⟩) ?_
    rw [← Act.put_comm a undef undef h2]
    exact h

theorem swap_skip_j {ki kj : Kd} {oi oj : Oper} (hap : oi.apart ops oj = true) (hsi : ∀ cs b, oi.op ≠ .select cs b)
    {K : Act → World → Prop} {a : Act} {w : World} (hj : Region.wanted oj (yielded ops a.tmps) = false)
    (h : stepV P ops C ki oi (stepV P ops C kj oj K) a w) : stepV P ops C ki oi K (a.put oj.dst undef) w := by
  obtain ⟨h1, h2, h3⟩ := Oper.apart_spec hap
  have on : ∀ (a' : Act) (w' : World), ((∃ u, a' = a.put oi.dst u) ∨ ∃ d u, a' = ({ a with defers := d :: a.defers } : Act).put oi.dst u) → stepV P ops C kj oj K a' w' → K (a'.put oj.dst undef) w' := by
    intro a' w' hc hK
    unfold stepV at hK
    rw [wanted_through (apart_symm hap) hc, hj] at hK
    exact hK
  unfold stepV at h
  unfold stepV
  rw [wanted_put oi a oj.dst undef h3]
  split
  · rename_i hw
    simp only [hw, if_true] at h
    cases ki with
    | w =>
      obtain ⟨v, hv, hK⟩ := h
      refine ⟨v, (Vals.put hap hsi).2 hv, ?_⟩
      rw [← Act.put_comm a v undef h2]
      exact on _ _ (.inl ⟨v, rfl⟩) hK
    | l =>
      obtain ⟨h0, v, hv, hK⟩ := h
      refine ⟨h0, v, (Vals.put hap hsi).2 hv, ?_⟩
      rw [← Act.put_comm a v undef h2]
      exact on _ _ (.inl ⟨v, rfl⟩) hK
    | k => exact ⟨h.1, wp_unput (apart_symm hap) hsi (Oper.wp_mono (fun a' w' h => ⟨h.1.1, on _ _ h.2 h.1.2⟩) (wp_frames h.2))⟩
    | t => exact wp_unput (apart_symm hap) hsi (Oper.wp_mono (fun a' w' h => on _ _ h.2 h.1) (wp_frames h))
  · rename_i hw
    simp only [hw] at h
    rw [← Act.put_comm a undef undef h2]
    exact on _ _ (.inl ⟨undef, rfl⟩) h

theorem swap_step {ki kj : Kd} {oi oj : Oper} (hap : oi.apart ops oj = true) (hsi : ∀ cs b, oi.op ≠ .select cs b) (hsj : ∀ cs b, oj.op ≠ .select cs b) (hp : pairOk ki kj = true)
    {K : Act → World → Prop} {a : Act} {w : World}
    (h : stepV P ops C ki oi (stepV P ops C kj oj K) a w) : stepV P ops C kj oj (stepV P ops C ki oi K) a w := by
  obtain ⟨h1, h2, h3⟩ := Oper.apart_spec hap
  by_cases hwi : Region.wanted oi (yielded ops a.tmps) = true
  case neg =>
    have hwi : Region.wanted oi (yielded ops a.tmps) = false := by simpa using hwi
    have h' := h
    unfold stepV at h'
    rw [hwi] at h'
    exact swap_skip_i hap hsj hwi h'
  by_cases hwj : Region.wanted oj (yielded ops a.tmps) = true
  case neg =>
    have hwj : Region.wanted oj (yielded ops a.tmps) = false := by simpa using hwj
    have h' := swap_skip_j hap hsi hwj h
    unfold stepV
    rw [hwj]
    exact h'
  have wj : ∀ (a' : Act), ((∃ u, a' = a.put oi.dst u) ∨ ∃ d u, a' = ({ a with defers := d :: a.defers } : Act).put oi.dst u) → Region.wanted oj (yielded ops a'.tmps) = true := fun a' hc => by
    rw [wanted_through (apart_symm hap) hc, hwj]
  have wi : ∀ (a' : Act), ((∃ u, a' = a.put oj.dst u) ∨ ∃ d u, a' = ({ a with defers := d :: a.defers } : Act).put oj.dst u) → Region.wanted oi (yielded ops a'.tmps) = true := fun a' hc => by
    rw [wanted_through hap hc, hwi]
  -- i hands back a value (kinds w, l); j whatever
  have ivals : ∀ (D : World → Prop) (v : Value), Vals P D oi a v → (∀ a' w' (_ : (∃ u, a' = a.put oj.dst u) ∨ ∃ d u, a' = ({ a with defers := d :: a.defers } : Act).put oj.dst u), K (a'.put oi.dst v) w' → (ki = .w ∨ C w') → stepV P ops C ki oi K a' w') →
      stepV P ops C kj oj K (a.put oi.dst v) w → (ki = .w ∨ ki = .l ∧ C w) → stepV P ops C kj oj (stepV P ops C ki oi K) a w := by
    intro D v hv on hh hkC
    unfold stepV at hh ⊢
    rw [wj _ (.inl ⟨v, rfl⟩)] at hh
    rw [hwj]
    simp only [if_true] at hh ⊢
    cases kj with
    | w =>
      obtain ⟨u, hu, hK⟩ := hh
      refine ⟨u, (Vals.put (apart_symm hap) hsj).1 hu, on _ _ (.inl ⟨u, rfl⟩) ?_ (hkC.imp id (·.2))⟩
      rw [← Act.put_comm a v u h2]; exact hK
    | l =>
      obtain ⟨h0, u, hu, hK⟩ := hh
      refine ⟨h0, u, (Vals.put (apart_symm hap) hsj).1 hu, on _ _ (.inl ⟨u, rfl⟩) ?_ (.inr h0)⟩
      rw [← Act.put_comm a v u h2]; exact hK
    | k => exact ⟨hh.1, Oper.wp_mono (fun a' w' h => ⟨h.1.1, on _ _ h.2 h.1.2 (.inr h.1.1)⟩) (wp_frames (wp_put hap hsj hh.2))⟩
    | t =>
      rcases hkC with rfl | ⟨rfl, _⟩
      · exact Oper.wp_mono (fun a' w' h => on _ _ h.2 h.1 (.inl rfl)) (wp_frames (wp_put hap hsj hh))
      · simp [pairOk] at hp
  -- j hands back a value (kinds w, l); i of kind k or t
  have jvals : ∀ (D : World → Prop) (v : Value) , Vals P D oj a v → oi.wp P a w (fun a' w' => K (a'.put oj.dst v) w') (Only fun _ _ _ => False) → oi.wp P (a.put oj.dst v) w K (Only fun _ _ _ => False) :=
    fun D v _ h => wp_unput (apart_symm hap) hsi h
  cases ki with
  | w =>
    have h' := h
    unfold stepV at h'
    simp only [hwi, if_true] at h'
    obtain ⟨v, hv, h'⟩ := h'
    refine ivals _ v hv (fun a' w' hc hK _ => ?_) h' (.inl rfl)
    unfold stepV
    rw [wi a' hc]
    exact ⟨v, (Vals.through hap hsi hc).2 hv, hK⟩
  | l =>
    have h' := h
    unfold stepV at h'
    simp only [hwi, if_true] at h'
    obtain ⟨hC, v, hv, h'⟩ := h'
    refine ivals _ v hv (fun a' w' hc hK hC' => ?_) h' (.inr ⟨rfl, hC⟩)
    unfold stepV
    rw [wi a' hc]
    rcases hC' with hC' | hC'
    · cases hC'
    · exact ⟨hC', v, (Vals.through hap hsi hc).2 hv, hK⟩
  | k =>
    have h' := h
    unfold stepV at h'
    simp only [hwi, if_true] at h'
    obtain ⟨hC, h'⟩ := h'
    cases kj with
    | w =>
      obtain ⟨a0, w0, hK0, hc0⟩ := wp_comes h'
      obtain ⟨_, hK0⟩ := hK0
      rw [wj _ hc0] at hK0
      simp only [if_true] at hK0
      obtain ⟨v, hv, _⟩ := hK0
      rw [Vals.through (apart_symm hap) hsj hc0] at hv
      unfold stepV
      rw [hwj]
      refine ⟨v, hv, ?_⟩
      rw [wi _ (.inl ⟨v, rfl⟩)]
      refine ⟨hC, wp_unput (apart_symm hap) hsi (Oper.wp_mono (fun a' w' hh => ?_) (wp_frames h'))⟩
      obtain ⟨⟨hC', hh⟩, hc⟩ := hh
      rw [wj _ hc] at hh
      obtain ⟨u, hu, hK⟩ := hh
      rw [Vals.through (apart_symm hap) hsj hc] at hu
      have e := Vals.uniq hv hu (w := w) trivial
      subst e
      exact ⟨hC', hK⟩
    | l =>
      obtain ⟨a0, w0, hK0, hc0⟩ := wp_comes h'
      obtain ⟨_, hK0⟩ := hK0
      rw [wj _ hc0] at hK0
      simp only [if_true] at hK0
      obtain ⟨_, v, hv, _⟩ := hK0
      rw [Vals.through (apart_symm hap) hsj hc0] at hv
      unfold stepV
      rw [hwj]
      refine ⟨hC, v, hv, ?_⟩
      rw [wi _ (.inl ⟨v, rfl⟩)]
      refine ⟨hC, wp_unput (apart_symm hap) hsi (Oper.wp_mono (fun a' w' hh => ?_) (wp_frames h'))⟩
      obtain ⟨⟨hC', hh⟩, hc⟩ := hh
      rw [wj _ hc] at hh
      obtain ⟨_, u, hu, hK⟩ := hh
      rw [Vals.through (apart_symm hap) hsj hc] at hu
      have e := Vals.uniq hv hu hC'
      subst e
      exact ⟨hC', hK⟩
    | k => simp [pairOk] at hp
    | t => simp [pairOk] at hp
  | t =>
    have h' := h
    unfold stepV at h'
    simp only [hwi, if_true] at h'
    cases kj with
    | w =>
      obtain ⟨a0, w0, hK0, hc0⟩ := wp_comes h'
      rw [wj _ hc0] at hK0
      simp only [if_true] at hK0
      obtain ⟨v, hv, _⟩ := hK0
      rw [Vals.through (apart_symm hap) hsj hc0] at hv
      unfold stepV
      rw [hwj]
      refine ⟨v, hv, ?_⟩
      rw [wi _ (.inl ⟨v, rfl⟩)]
      refine wp_unput (apart_symm hap) hsi (Oper.wp_mono (fun a' w' hh => ?_) (wp_frames h'))
      obtain ⟨hh, hc⟩ := hh
      rw [wj _ hc] at hh
      obtain ⟨u, hu, hK⟩ := hh
      rw [Vals.through (apart_symm hap) hsj hc] at hu
      have e := Vals.uniq hv hu (w := w) trivial
      subst e
      exact hK
    | l => simp [pairOk] at hp
    | k => simp [pairOk] at hp
    | t => simp [pairOk] at hp

/-! ### the whole region -/

def reach (ops : Array Oper) : Nat → Nat → Nat → Bool
  | 0, _, _ => false
  | f + 1, p, j => match ops[j]? with
    | some o => o.after.any fun e => Region.binds .any e && (e.on == p || (decide (p < e.on) && reach ops f p e.on))
    | none => false

def mixB (ks : List Kd) (ops : Array Oper) : Bool :=
  ks.length == ops.size && Region.noSelect ops &&
  (List.range ops.size).all fun j => match ops[j]?, ks[j]? with
    | some oj, some kj => okKd kj oj && (oj.after.all fun e => !Region.binds .any e || decide (e.on < j)) &&
      (List.range j).all fun i => match ops[i]?, ks[i]? with
        | some oi, some ki => reach ops ops.size i j || (pairOk ki kj && oi.apart ops oj)
        | _, _ => false
    | _, _ => false

/-- by indices -/
def mixI (P : Program) (ops : Array Oper) (C : World → Prop) (ks : List Kd) (K : Act → World → Prop) : List Nat → Act → World → Prop
  | [], a, w => K a w
  | i :: r, a, w => match ops[i]?, ks[i]? with
    | some o, some kd => stepV P ops C kd o (mixI P ops C ks K r) a w
    | _, _ => mixI P ops C ks K r a w

theorem mixI_pull {ks : List Kd} {K : Act → World → Prop} {j : Nat} {oj : Oper} {kj : Kd} (hoj : ops[j]? = some oj) (hkj : ks[j]? = some kj) (hsel : ∀ (j : Nat) (o : Oper) cs b, ops[j]? = some o → o.op ≠ .select cs b) :
    ∀ (pre post : List Nat), (∀ i ∈ pre, ∀ oi ki, ops[i]? = some oi → ks[i]? = some ki → pairOk ki kj = true ∧ oi.apart ops oj = true) → ∀ (a : Act) (w : World),
      mixI P ops C ks K (pre ++ j :: post) a w → stepV P ops C kj oj (mixI P ops C ks K (pre ++ post)) a w
  | [], post, _, a, w, h => by
    simp only [List.nil_append, mixI, hoj, hkj] at h
    exact h
  | i :: pre, post, hp, a, w, h => by
    have ih : ∀ (a : Act) (w : World), mixI P ops C ks K (pre ++ j :: post) a w → stepV P ops C kj oj (mixI P ops C ks K (pre ++ post)) a w := mixI_pull hoj hkj hsel pre post (fun i' hi' => hp i' (List.mem_cons_of_mem _ hi'))
    simp only [List.cons_append, mixI] at h
    have e : (mixI P ops C ks K (i :: (pre ++ post))) = fun a w => match ops[i]?, ks[i]? with
      | some o, some kd => stepV P ops C kd o (mixI P ops C ks K (pre ++ post)) a w
      | _, _ => mixI P ops C ks K (pre ++ post) a w := by funext a w; simp only [mixI]
    rw [List.cons_append, e]
    cases hoi : ops[i]? with
    | none =>
      simp only [hoi] at h ⊢
      exact ih a w h
    | some oi =>
      cases hki : ks[i]? with
      | none => simp only [hoi, hki] at h ⊢; exact ih a w h
      | some ki =>
        simp only [hoi, hki] at h ⊢
        obtain ⟨h1, h2⟩ := hp i (List.mem_cons_self ..) oi ki hoi hki
        exact swap_step h2 (fun cs b => hsel i oi cs b hoi) (fun cs b => hsel j oj cs b hoj) h1 (stepV_mono ih h)

theorem reach_listed {listed : Array Bool} (hcl : ∀ j oj, ops[j]? = some oj → listed.getD j false = true → ∀ e ∈ oj.after, Region.binds .any e = true → listed.getD e.on false = true) :
    ∀ (f p j : Nat) (oj : Oper), ops[j]? = some oj → (∀ e ∈ oj.after, Region.binds .any e = true → listed.getD e.on false = true) → reach ops f p j = true → listed.getD p false = true
  | 0, p, j, oj, hoj, hd, h => by simp [reach] at h
  | f + 1, p, j, oj, hoj, hd, h => by
    simp only [reach, hoj] at h
    obtain ⟨e, he, hb⟩ := Array.any_eq_true'.1 h
    simp only [Bool.and_eq_true, Bool.or_eq_true, beq_iff_eq, decide_eq_true_eq] at hb
    obtain ⟨hb, hr⟩ := hb
    rcases hr with rfl | ⟨_, hr⟩
    · exact hd e he hb
    · have hl := hd e he hb
      cases hoe : ops[e.on]? with
      | none =>
        cases f with
        | zero => simp [reach] at hr
        | succ f => simp [reach, hoe] at hr
      | some oe => exact reach_listed hcl f p e.on oe hoe (hcl e.on oe hoe hl) hr

theorem stepV_wpOp {kd : Kd} {j : Nat} {o : Oper} (hj : ops[j]? = some o) {K : Act → World → Prop} {Q' : Exit → Act → World → Prop} {a : Act} {w : World} (h : stepV P ops C kd o K a w) : wpOp P ops (Only Q') j K a w := by
  unfold wpOp
  rw [hj]
  unfold stepV at h
  have hq : ∀ {K : Act → World → Prop}, o.wp P a w K (Only fun _ _ _ => False) → o.wp P a w K (Only Q') := by
    intro K h
    unfold Oper.wp at *
    generalize (execOp a.eval o).run P w = r at *
    cases r with
    | ok n w' =>
      cases n <;> simp only [Oper.upon] at h ⊢ <;> first | exact h | skip
    | halt x w' =>
      cases x <;> simp only [Oper.upon] at h ⊢
      case panic u => exact (h : False).elim
  show if Region.wanted o (yielded ops a.tmps) = true then _ else _
  split
  · rename_i hw
    simp only [hw, if_true] at h
    refine .inl ?_
    cases kd with
    | w =>
      obtain ⟨v, hv, hK⟩ := h
      unfold Oper.wp
      rw [hv w trivial]
      exact hK
    | l =>
      obtain ⟨hC, v, hv, hK⟩ := h
      unfold Oper.wp
      rw [hv w hC]
      exact hK
    | k => exact hq (Oper.wp_mono (fun _ _ h => h.2) h.2)
    | t => exact hq h
  · rename_i hw
    simp only [hw] at h
    exact h

theorem mix_any {ks : List Kd} {Q' : Exit → Act → World → Prop} (hB : mixB ks ops = true) :
    ∀ (U : List Nat) (listed : Array Bool), listed.size = ops.size → U.Pairwise (· < ·) → (∀ j, j < ops.size → (listed.getD j true = false ↔ j ∈ U)) → (∀ j ∈ U, j < ops.size) →
      (∀ j oj, ops[j]? = some oj → listed.getD j false = true → ∀ e ∈ oj.after, Region.binds .any e = true → listed.getD e.on false = true) →
      ∀ (a : Act) (w : World), mixI P ops C ks (fun a w => Q' .normal a w) U a w → wpAny P .any ops (Only Q') U.length listed a w := by
  have hB' := hB
  simp only [mixB, Bool.and_eq_true, List.all_eq_true, List.mem_range, beq_iff_eq] at hB
  obtain ⟨⟨hlen, hsel⟩, hB⟩ := hB
  have hsel' := Region.noSelect_spec hsel
  intro U
  induction hn : U.length generalizing U with
  | zero =>
    intro listed hsz hs hU hUs hcl a w h
    have : U = [] := List.eq_nil_of_length_eq_zero hn
    subst this
    refine ⟨?_, h⟩
    cases hr : Region.ready .any ops listed with
    | nil => rfl
    | cons j r =>
      have hj : j ∈ Region.ready .any ops listed := by rw [hr]; exact List.mem_cons_self ..
      obtain ⟨h0, oj, hoj, _⟩ := mem_ready.1 hj
      have := (hU j (Array.getElem?_eq_some_iff.1 hoj).1).1 h0
      cases this
  | succ n ih =>
    intro listed hsz hs hU hUs hcl a w h
    have get2 : ∀ j, j < ops.size → ∃ oj kj, ops[j]? = some oj ∧ ks[j]? = some kj := fun j hj =>
      ⟨ops[j], ks[j]'(by omega), Array.getElem?_eq_getElem hj, List.getElem?_eq_getElem (by omega)⟩
    refine ⟨fun h0 => ?_, fun j hj => ?_⟩
    · -- the first unlisted operation is ready
      exfalso
      match U, hn with
      | j :: r, _ =>
        have hjs := hUs j (List.mem_cons_self ..)
        obtain ⟨oj, kj, hoj, hkj⟩ := get2 j hjs
        have hBj := hB j hjs
        simp only [hoj, hkj, Bool.and_eq_true, Array.all_eq_true_iff_forall_mem, Bool.or_eq_true, Bool.not_eq_true', decide_eq_true_eq] at hBj
        have : j ∈ Region.ready .any ops listed := by
          rw [mem_ready]
          refine ⟨(hU j hjs).2 (List.mem_cons_self ..), oj, hoj, fun e he hb => ?_⟩
          have hlt : e.on < j := (hBj.1.2 e he).resolve_left (by simp [hb])
          have hns : e.on ∉ (j :: r) := by
            intro hm
            rcases List.mem_cons.1 hm with e1 | e1
            · omega
            · have := List.rel_of_pairwise_cons hs e1; omega
          have := mt (hU e.on (by omega)).1 hns
          have hlt2 : e.on < listed.size := by omega
          simp [hlt2] at this ⊢
          exact this
        rw [h0] at this
        cases this
    · obtain ⟨hun, oj, hoj, hall⟩ := mem_ready.1 hj
      have hjs : j < ops.size := (Array.getElem?_eq_some_iff.1 hoj).1
      have hjU := (hU j hjs).1 hun
      obtain ⟨pre, post, hsplit⟩ := List.append_of_mem hjU
      obtain ⟨_, kj, _, hkj⟩ := get2 j hjs
      subst hsplit
      have hpw := List.pairwise_append.1 hs
      have hBj := hB j hjs
      simp only [hoj, hkj, Bool.and_eq_true, List.all_eq_true, List.mem_range] at hBj
      have hpre : ∀ i ∈ pre, ∀ oi ki, ops[i]? = some oi → ks[i]? = some ki → pairOk ki kj = true ∧ oi.apart ops oj = true := by
        intro i hi oi ki hoi hki
        have hij : i < j := hpw.2.2 i hi j (List.mem_cons_self ..)
        have hp := hBj.2 i hij
        simp only [hoi, hki, Bool.or_eq_true, Bool.and_eq_true] at hp
        rcases hp with hp | hp
        · exfalso
          have hl := reach_listed hcl ops.size i j oj hoj hall hp
          have hnl := (hU i (Array.getElem?_eq_some_iff.1 hoi).1).2 (List.mem_append_left _ hi)
          have hlt2 : i < listed.size := by rw [hsz]; exact (Array.getElem?_eq_some_iff.1 hoi).1
          simp [hlt2] at hl hnl
          rw [hl] at hnl
          cases hnl
        · exact hp
      have h2 := mixI_pull hoj hkj hsel' pre post hpre a w h
      refine wpOp_mono (fun a' w' h3 => ?_) (stepV_wpOp (Q' := Q') hoj h2)
      refine ih (pre ++ post) (by simp at hn ⊢; omega) (listed.setIfInBounds j true) (by simpa using hsz) ?_ ?_ ?_ ?_ a' w' h3
      · refine List.pairwise_append.2 ⟨hpw.1, (List.pairwise_cons.1 hpw.2.1).2, fun x hx y hy => hpw.2.2 x hx y (List.mem_cons_of_mem _ hy)⟩
      · intro i hi
        have hjnot : j ∉ pre ++ post := by
          intro hm
          rcases List.mem_append.1 hm with hm | hm
          · have := hpw.2.2 j hm j (List.mem_cons_self ..); omega
          · have := List.rel_of_pairwise_cons hpw.2.1 hm; omega
        by_cases hij : j = i
        · subst hij
          have hlt2 : j < listed.size := by omega
          simp [hlt2]
          exact ⟨fun hm => hjnot (List.mem_append_left _ hm), fun hm => hjnot (List.mem_append_right _ hm)⟩
        · rw [getD_set_ne true hij, hU i hi]
          simp only [List.mem_append, List.mem_cons]
          constructor
          · rintro (h | h | h)
            · exact .inl h
            · exact absurd h.symm hij
            · exact .inr h
          · rintro (h | h)
            · exact .inl h
            · exact .inr (.inr h)
      · intro i hi
        refine hUs i ?_
        rcases List.mem_append.1 hi with h | h
        · exact List.mem_append_left _ h
        · exact List.mem_append_right _ (List.mem_cons_of_mem _ h)
      · intro i oi hoi hl e he hb
        by_cases hij : j = i
        · subst hij
          rw [hoj] at hoi
          cases hoi
          exact getD_set_true (hall e he hb)
        · rw [getD_set_ne false hij] at hl
          exact getD_set_true (hcl i oi hoi hl e he hb)

theorem mixI_of_wpMix (ks : List Kd) (hk : ∀ (j : Nat) (o : Oper) kd, ops[j]? = some o → ks[j]? = some kd → okKd kd o = true) (K : Act → World → Prop) : ∀ (l : List Oper) (kl : List Kd) (n : Nat), l.length = kl.length → (∀ j, l[j]? = ops[n + j]?) → (∀ j, kl[j]? = ks[n + j]?) →
    ∀ (a : Act) (w : World), wpMix P ops C K kl l a w → mixI P ops C ks K (List.range' n l.length) a w
  | [], [], n, _, _, _, a, w, h => by simpa [mixI, wpMix] using h
  | o :: l, kd :: kl, n, hl, ho, hks, a, w, h => by
    have h0 : ops[n]? = some o := by simpa using (ho 0).symm
    have k0 : ks[n]? = some kd := by simpa using (hks 0).symm
    simp only [List.length_cons, List.range'_succ, mixI, h0, k0]
    simp only [wpMix] at h
    refine stepV_mono (fun a' w' h' => ?_) (stepV_of_X (hk n o kd h0 k0) h)
    exact mixI_of_wpMix ks hk K l kl (n + 1) (by simpa using hl) (fun j => by have := ho (j + 1); simpa [Nat.add_assoc, Nat.add_comm 1 j] using this) (fun j => by have := hks (j + 1); simpa [Nat.add_assoc, Nat.add_comm 1 j] using this) a' w' h'

/-- the walk's own goal: no unfolding looks behind it -/
structure Mix (P : Program) (ops : Array Oper) (C : World → Prop) (K : Act → World → Prop) (ks : List Kd) (l : List Oper) (a : Act) (w : World) : Prop where
  get : wpMix P ops C K ks l a w

/-- **A region that draws its order, walked once, in the order of the text.** -/
theorem wp_region_mix {id : Nat} {Q : Exit → Act → World → Prop} {a : Act} {w : World} {l : List Oper} (ks : List Kd) (hm : P.follows .mixedOrders = true) (hB : mixB ks l.toArray = true) (C : World → Prop)
    (h : Mix P l.toArray C (fun a w => Q .normal a w) ks l a w.drew) : (Code.region id l.toArray true).wp P Q a w := by
  refine Code.wp_mono (Q := Only Q) Only.imp ?_
  have hB0 := hB
  simp only [mixB, Bool.and_eq_true, List.all_eq_true, List.mem_range, beq_iff_eq] at hB0
  obtain ⟨⟨hlen, hsel⟩, hB1⟩ := hB0
  have hlen' : l.length = ks.length := by simpa using hlen.symm
  refine wp_region_any hm ?_
  have hI := mixI_of_wpMix (P := P) (C := C) (ops := l.toArray) ks (fun j o kd ho hk => by
    have := hB1 j (Array.getElem?_eq_some_iff.1 ho).1
    simp only [ho, hk, Bool.and_eq_true] at this
    exact this.1.1) (fun a w => Q .normal a w) l ks 0 hlen' (by simp) (by simp) a _ h.get
  have := mix_any (P := P) (C := C) (Q' := Q) hB (List.range' 0 l.length) (Array.replicate l.toArray.size false) (by simp) (List.pairwise_lt_range' ..) (fun j hj => by simp at hj ⊢; simp [hj]) (fun j hj => by simpa using hj)
    (fun j oj _ hl => by
      exfalso
      rcases Nat.lt_or_ge j l.toArray.size with hlt | hge
      · simp at hlt; simp [hlt] at hl
      · simp at hge; simp [hge] at hl) a w.drew hI
  simpa using this

/-! ### the walk -/
/-- a run of operations of kind w: as a quiet walk in every world -/
theorem mix_w {K : Act → World → Prop} : ∀ (n : Nat) (ks : List Kd) (l : List Oper) (a : Act) (w : World), ks.take n = List.replicate n .w → n ≤ l.length →
    wpQuiet P ops (fun _ => True) (fun a' => wpMix P ops C K (ks.drop n) (l.drop n) a' w) (l.take n) a → wpMix P ops C K ks l a w
  | 0, ks, l, a, w, _, _, h => by simpa [wpQuiet] using h
  | n + 1, kd :: ks, o :: l, a, w, hk, hl, h => by
    simp only [List.take_succ_cons, List.replicate_succ, List.cons.injEq] at hk
    obtain ⟨rfl, hk⟩ := hk
    simp only [List.take_succ_cons, List.drop_succ_cons, wpQuiet] at h
    simp only [wpMix, stepX]
    have hn : n ≤ l.length := by simpa using hl
    split
    · rename_i hw
      simp only [hw, if_true] at h
      exact Oper.quiet_mono (fun a' h' => mix_w n ks l a' w hk hn h') h
    · rename_i hw
      simp only [hw] at h
      exact mix_w n ks l _ w hk hn h

/-- a run of operations of kind l -/
theorem mix_l {K : Act → World → Prop} : ∀ (n : Nat) (ks : List Kd) (l : List Oper) (a : Act) (w : World), ks.take n = List.replicate n .l → n ≤ l.length → C w →
    wpQuiet P ops C (fun a' => wpMix P ops C K (ks.drop n) (l.drop n) a' w) (l.take n) a → wpMix P ops C K ks l a w
  | 0, ks, l, a, w, _, _, _, h => by simpa [wpQuiet] using h
  | n + 1, kd :: ks, o :: l, a, w, hk, hl, hC, h => by
    simp only [List.take_succ_cons, List.replicate_succ, List.cons.injEq] at hk
    obtain ⟨rfl, hk⟩ := hk
    simp only [List.take_succ_cons, List.drop_succ_cons, wpQuiet] at h
    simp only [wpMix, stepX]
    have hn : n ≤ l.length := by simpa using hl
    split
    · rename_i hw
      simp only [hw, if_true] at h
      exact ⟨hC, Oper.quiet_mono (fun a' h' => mix_l n ks l a' w hk hn hC h') h⟩
    · rename_i hw
      simp only [hw] at h
      exact mix_l n ks l _ w hk hn hC h

theorem wpQuiet_mono' {D : World → Prop} {Q Q' : Act → Prop} (hQ : ∀ a, Q a → Q' a) : ∀ {l : List Oper} {a : Act}, wpQuiet P ops D Q l a → wpQuiet P ops D Q' l a
  | [], _, h => hQ _ h
  | o :: l, a, h => by
    simp only [wpQuiet] at h ⊢
    split
    · rename_i hw
      simp only [hw, if_true] at h
      exact Oper.quiet_mono (fun a' h' => wpQuiet_mono' hQ h') h
    · rename_i hw
      simp only [hw] at h
      exact wpQuiet_mono' hQ h

section
variable {K : Act → World → Prop} {ks : List Kd} {o : Oper} {l : List Oper} {a : Act} {w : World}
theorem mix_w1 (h : wpQuiet P ops (fun _ => True) (fun a' => Mix P ops C K ks l a' w) [o] a) : Mix P ops C K (.w :: ks) (o :: l) a w :=
  ⟨mix_w 1 (.w :: ks) (o :: l) a w rfl (by simp) (wpQuiet_mono' (fun _ h => h.get) h)⟩
theorem mix_l1 (hC : C w) (h : wpQuiet P ops C (fun a' => Mix P ops C K ks l a' w) [o] a) : Mix P ops C K (.l :: ks) (o :: l) a w :=
  ⟨mix_l 1 (.l :: ks) (o :: l) a w rfl (by simp) hC (wpQuiet_mono' (fun _ h => h.get) h)⟩
end
/-- a load of one cell, of kind l -/
theorem mix_load1 {K : Act → World → Prop} {ks : List Kd} {o : Oper} {l : List Oper} {a : Act} {w : World} (hC : C w) (hg : o.guard = none) (t : TypeId) (x : Operand) (hop : o.op = .load t x) (hna : ∀ w, (isAgg t).run P w = .ok false w)
    (ad : Addr) (v : Value) (hx : a.eval x = .pointer (some ad)) (hc : ∀ w', C w' → w'.cell? ad = some v) (h : Mix P ops C K ks l (a.put o.dst v) w) : Mix P ops C K (.l :: ks) (o :: l) a w := by
  refine mix_l1 hC ?_
  unfold wpQuiet
  have hw : Region.wanted o (yielded ops a.tmps) = true := by simp [Region.wanted, hg]
  rw [if_pos hw]
  refine ⟨v, fun w' hw' => ?_, h⟩
  unfold Oper.quietAt
  simp [execOp, hop, hx, Instr.loadAt, Instr.sureAddr, loadVar, hna, hc w' hw', Oper.quietUpon, Result.andThen]
theorem mix_nil {a : Act} {w : World} (h : Q .normal a w) : Mix P ops C (fun a w => Q .normal a w) [] [] a w := ⟨h⟩

/-- the post of a piece: on with the rest -/
def On (K : Act → World → Prop) : Exit → Act → World → Prop
  | .normal, a, w => K a w
  | _, _, _ => False

theorem wp_of_list {o : Oper} {a : Act} {w : World} {K : Act → World → Prop} (hw : Region.wanted o (yielded ops a.tmps) = true) (h : wpList P ops (On K) [o] a w) : o.wp P a w K (Only fun _ _ _ => False) := by
  unfold wpList at h
  simp only [hw, if_true] at h
  rcases h with h | ⟨_, _, _, hf⟩
  · unfold Oper.wp at *
    generalize (execOp a.eval o).run P w = r at *
    cases r with
    | ok n w' =>
      cases n <;> simp only [Oper.upon] at h ⊢ <;> first | exact h | skip
    | halt x w' =>
      cases x <;> simp only [Oper.upon] at h ⊢
      case panic u => exact (h : False).elim
  · exact (hf : False).elim

/-- one operation of kind t, as a list of one -/
theorem mix_t {K : Act → World → Prop} {ks : List Kd} {o : Oper} {l : List Oper} {a : Act} {w : World}
    (h : ∀ Q' : Exit → Act → World → Prop, (∀ a' w', Mix P ops C K ks l a' w' → Q' .normal a' w') → wpList P ops Q' [o] a w) : Mix P ops C K (.t :: ks) (o :: l) a w := by
  refine ⟨?_⟩
  simp only [wpMix, stepX]
  have h' := h (On (wpMix P ops C K ks l)) (fun _ _ h => h.get)
  split
  · rename_i hw
    exact wp_of_list hw h'
  · rename_i hw
    unfold wpList at h'
    simp only [hw] at h'
    exact h'

/-- one operation of kind k -/
theorem mix_k {K : Act → World → Prop} {ks : List Kd} {o : Oper} {l : List Oper} {a : Act} {w : World} (hC : C w)
    (h : ∀ Q' : Exit → Act → World → Prop, (∀ a' w', C w' → Mix P ops C K ks l a' w' → Q' .normal a' w') → wpList P ops Q' [o] a w) : Mix P ops C K (.k :: ks) (o :: l) a w := by
  refine ⟨?_⟩
  simp only [wpMix, stepX]
  have h' := h (On fun a' w' => C w' ∧ wpMix P ops C K ks l a' w') (fun _ _ h1 h2 => ⟨h1, h2.get⟩)
  split
  · rename_i hw
    exact ⟨hC, wp_of_list hw h'⟩
  · rename_i hw
    unfold wpList at h'
    simp only [hw] at h'
    exact (h' : C w ∧ _).2

end

theorem wp_region_mix0 {P : Program} {id : Nat} {Q : Exit → Act → World → Prop} {a : Act} {w : World} {l : List Oper} (ks : List Kd) (hm : P.follows .mixedOrders = true) (hB : mixB ks l.toArray = true)
    (h : Mix P l.toArray (fun w' => w' = w.drew) (fun a w => Q .normal a w) ks l a w.drew) : (Code.region id l.toArray true).wp P Q a w := wp_region_mix ks hm hB _ h
theorem mix_done {P : Program} {ops : Array Oper} {C : World → Prop} {K : Act → World → Prop} {a : Act} {w : World} (h : K a w) : Mix P ops C K [] [] a w := ⟨h⟩
theorem add_n (g o k : Nat) : (⟨g, o, none⟩ : Addr).add k = ⟨g, o + k, none⟩ := by unfold Addr.add; split <;> simp_all

end Go.Proofs.YtdchmelgaljpfaaGreat
