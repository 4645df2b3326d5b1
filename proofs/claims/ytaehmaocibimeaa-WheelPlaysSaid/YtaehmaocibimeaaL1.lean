import Derived.Test.YtaehmaocibimeaaW6
set_option linter.unusedSimpArgs false
set_option linter.unusedVariables false
namespace Go.Proofs.Ytaehmaocibimeaa
open Go.RowKit

/-- a slice of integers that came in: its elements are f 0, f 1, .. -/
def InSl (q : IntKind) (hi : Int) (w : World) (A : Option Addr) (n : Nat) (f : Nat → Int) : Prop :=
  (0 < n → ∃ b off, A = some ⟨b, off, none⟩ ∧ b < w.heap.size ∧ ∀ j, j < n → w.cell? ⟨b, off + j, none⟩ = some (.int q (f j))) ∧ ∀ j, 0 ≤ f j ∧ f j < hi

/-- two wheels that share nothing, in blocks of their own -/
structure Two (w0 w : World) (pa ma : Nat) (va : Value) (Sa : WS) (pb mb : Nat) (vb : Value) (Sb : WS) : Prop where
  a : IsW w pa ma va Sa
  b : IsW w pb mb vb Sb
  dis : ∀ k, fpW pa ma va Sa k → ¬ fpW pb mb vb Sb k
  ba : ∀ k, fpW pa ma va Sa k → w0.heap.size ≤ k
  bb : ∀ k, fpW pb mb vb Sb k → w0.heap.size ≤ k
  kept : Kept (fun _ => False) w0 w

section
variable {w0 w w' : World} {pa ma pb mb : Nat} {va va' vb : Value} {Sa Sa' Sb : WS} {F : Nat → Prop}
theorem Two.symm (h : Two w0 w pa ma va Sa pb mb vb Sb) : Two w0 w pb mb vb Sb pa ma va Sa := ⟨h.b, h.a, fun k h1 h2 => h.dis k h2 h1, h.bb, h.ba, h.kept⟩
theorem Two.step (h : Two w0 w pa ma va Sa pb mb vb Sb) (hk : Kept F w w') (hF : ∀ k, k < w.heap.size → F k → fpW pa ma va Sa k) (ha : IsW w' pa ma va' Sa') (hfp : ∀ k, fpW pa ma va' Sa' k → fpW pa ma va Sa k ∨ w.heap.size ≤ k) :
    Two w0 w' pa ma va' Sa' pb mb vb Sb := by
  have hs := h.kept.size
  refine ⟨ha, h.b.kept hk (fun k hkb hFk => h.dis k (hF k (h.b.fp_lt hkb) hFk) hkb), fun k h1 h2 => ?_, fun k h1 => ?_, h.bb, Kept.trans h.kept hk (fun x hx hFx => ?_)⟩
  · rcases hfp k h1 with h1 | h1
    · exact h.dis k h1 h2
    · have := h.b.fp_lt h2; omega
  · rcases hfp k h1 with h1 | h1
    · exact h.ba k h1
    · omega
  · have := h.ba x (hF x (by omega) hFx); omega
theorem Two.drewN (h : Two w0 w pa ma va Sa pb mb vb Sb) (n : Nat) : Two w0 (w.drewN n) pa ma va Sa pb mb vb Sb := ⟨h.a.drewN n, h.b.drewN n, h.dis, h.ba, h.bb, h.kept.drewN n⟩
/-- another block is written -/
theorem Two.other (h : Two w0 w pa ma va Sa pb mb vb Sb) (hk : Kept F w w') (hF : ∀ k, k < w.heap.size → F k → ¬ fpW pa ma va Sa k ∧ ¬ fpW pb mb vb Sb k ∧ w0.heap.size ≤ k) : Two w0 w' pa ma va Sa pb mb vb Sb := by
  have hs := h.kept.size
  exact ⟨h.a.kept hk (fun k h1 h2 => (hF k (h.a.fp_lt h1) h2).1 h1), h.b.kept hk (fun k h1 h2 => (hF k (h.b.fp_lt h1) h2).2.1 h1), h.dis, h.ba, h.bb, Kept.trans h.kept hk (fun x hx hFx => by have := (hF x (by omega) hFx).2.2; omega)⟩
end

theorem fp_init {p m : Nat} {v : Value} {S : WS} {id : Int} {g : Nat} {t : Tm} {k : Nat} (h : fpW p m v { S with all := S.all ++ [(id, (g, t))] } k) : fpW p m v S k ∨ k = g := by
  rcases h with h | h | h | ⟨x, hx, rfl⟩
  · exact .inl (.inl h)
  · exact .inl (.inr (.inl h))
  · exact .inl (.inr (.inr (.inl h)))
  · rcases List.mem_append.1 hx with hx | hx
    · exact .inl (.inr (.inr (.inr ⟨x, hx, rfl⟩)))
    · rw [List.mem_singleton.1 hx]; exact .inr rfl

theorem fp_v {p m : Nat} {v v' : Value} {S S' : WS} {H : Nat} (hv : ∀ g, v'.ownBlock = some g → v.ownBlock = some g ∨ H ≤ g) (ha : S'.all.map (fun x => (x.1, x.2.1)) = S.all.map fun x => (x.1, x.2.1)) {k : Nat} (h : fpW p m v' S' k) : fpW p m v S k ∨ H ≤ k := by
  rcases h with h | h | h | ⟨x, hx, rfl⟩
  · exact .inl (.inl h)
  · exact .inl (.inr (.inl h))
  · rcases hv k h with h | h
    · exact .inl (.inr (.inr (.inl h)))
    · exact .inr h
  · have : (x.1, x.2.1) ∈ S.all.map fun x => (x.1, x.2.1) := by rw [← ha]; exact List.mem_map.2 ⟨x, hx, rfl⟩
    obtain ⟨y, hy, he⟩ := List.mem_map.1 this
    simp only [Prod.mk.injEq] at he
    exact .inl (.inr (.inr (.inr ⟨y, hy, he.2.symm⟩)))

/-- the three calls for one timer -/
theorem two_init {w0 w : World} {pa ma pb mb : Nat} {va vb : Value} {Sa Sb : WS} (h : Two w0 w pa ma va Sa pb mb vb Sb) (id : Int) (hl : lookI Sa.all id = none) :
    Calls Try.prog 8 #[.pointer (some ⟨pa, 0, none⟩), .int .i64 id] w fun e w' => e = .returned (.int .i64 0) ∧ ∃ g, Two w0 w' pa ma va { Sa with all := Sa.all ++ [(id, (g, Tm.new id))] } pb mb vb Sb :=
  (init_ok pa ma va Sa id w h.a hl).mono fun e w' ⟨h1, h2, h3, h4⟩ => ⟨h1, w.heap.size, h.step h3 (fun k _ e => .inr (.inl e)) h2 (fun k hk => (fp_init hk).imp (fun h => h) (fun h => by omega))⟩

theorem two_cb {w0 w : World} {pa ma pb mb : Nat} {va vb : Value} {Sa Sb : WS} (id pr at_ : Int) (g : Nat) (h : Two w0 w pa ma va { Sa with all := Sa.all ++ [(id, (g, Tm.new id))] } pb mb vb Sb) (hl : lookI Sa.all id = none) :
    Calls Try.prog 9 #[.pointer (some ⟨pa, 0, none⟩), .int .i64 id, .int .i64 pr, .int .i64 at_] w fun e w' => e = .returned (.int .i64 0) ∧ Two w0 w' pa ma va { Sa with all := Sa.all ++ [(id, (g, ⟨id, pr, at_, true, 0, 0⟩))] } pb mb vb Sb := by
  have hlk := look_app (u := (g, Tm.new id)) hl
  refine (cb_ok pa ma va _ id pr at_ w h.a hlk).mono fun e w' ⟨h1, h2, h3⟩ => ⟨h1, ?_⟩
  have e2 : updI (Sa.all ++ [(id, (g, Tm.new id))]) id (g, ({ Tm.new id with prog := pr, at_ := at_, has := true } : Tm)) = Sa.all ++ [(id, (g, ⟨id, pr, at_, true, 0, 0⟩))] := upd_app hl
  have h2' : IsW w' pa ma va { Sa with all := Sa.all ++ [(id, (g, ⟨id, pr, at_, true, 0, 0⟩))] } := by
    have := h2
    simp only at this
    rw [e2] at this
    exact this
  refine h.step h3 (fun k _ e => .inr (.inr (.inr ⟨_, look_mem hlk, e⟩))) h2' (fun k hk => .inl ?_)
  rcases fp_init hk with hk | rfl
  · rcases hk with hk | hk | hk | ⟨x, hx, e⟩
    · exact .inl hk
    · exact .inr (.inl hk)
    · exact .inr (.inr (.inl hk))
    · exact .inr (.inr (.inr ⟨x, List.mem_append_left _ hx, e⟩))
  · exact .inr (.inr (.inr ⟨_, look_mem hlk, rfl⟩))

theorem two_start {w0 w : World} {pa ma pb mb : Nat} {va vb : Value} {Sa Sb : WS} (id pr at_ after : Int) (g : Nat) (h : Two w0 w pa ma va { Sa with all := Sa.all ++ [(id, (g, ⟨id, pr, at_, true, 0, 0⟩))] } pb mb vb Sb) (hl : lookI Sa.all id = none)
    (ha : 0 ≤ after) (ha2 : after ≤ 18446744073709551615 - Sa.now) (hs : Sa.starts < 1000000) :
    Calls Try.prog 10 #[.pointer (some ⟨pa, 0, none⟩), .int .i64 id, .int .u64 after] w fun e w' => e = .returned (.int .i64 0) ∧ ∃ va', Two w0 w' pa ma va' (addT Sa g id pr at_ after) pb mb vb Sb := by
  have hlk := look_app (u := (g, (⟨id, pr, at_, true, 0, 0⟩ : Tm))) hl
  refine (start_ok pa ma va _ id after w h.a hlk rfl ha ha2 hs).mono fun e w' ⟨h1, v', h2, h3, h4⟩ => ⟨h1, v', ?_⟩
  have e2 : updI (Sa.all ++ [(id, (g, (⟨id, pr, at_, true, 0, 0⟩ : Tm)))]) id (g, Tm.go ⟨id, pr, at_, true, 0, 0⟩ (Sa.now + after) (Sa.starts + 1)) = Sa.all ++ [(id, (g, ⟨id, pr, at_, true, Sa.now + after, Sa.starts + 1⟩))] := upd_app hl
  have h2' : IsW w' pa ma v' (addT Sa g id pr at_ after) := by
    have := h2
    simp only at this
    rw [e2] at this
    exact this
  have hids : (addT Sa g id pr at_ after).all.map (fun x => (x.1, x.2.1)) = (Sa.all ++ [(id, (g, (⟨id, pr, at_, true, 0, 0⟩ : Tm)))]).map fun x => (x.1, x.2.1) := by simp [addT]
  refine h.step h4 (fun k _ e => ?_) h2' (fun k hk => fp_v h3 hids hk)
  rcases e with e | e | e
  · exact .inl e
  · exact .inr (.inr (.inr ⟨_, look_mem hlk, e⟩))
  · exact .inr (.inr (.inl e))

theorem Ticks.len {to : Int} {S S' : WS} {o : List Fd} (h : Ticks to S o S') : o.length + S'.due.length ≤ S.due.length := by
  induction h with
  | stop0 h => simp
  | stop1 h1 h2 => simp
  | skip h1 h2 h3 h4 h5 _ ih => simp [popX_len, h3] at ih ⊢; omega
  | fire h1 h2 h3 h4 h5 h6 h7 _ ih => simp [popX_len, h3] at ih ⊢; omega

end Go.Proofs.Ytaehmaocibimeaa
