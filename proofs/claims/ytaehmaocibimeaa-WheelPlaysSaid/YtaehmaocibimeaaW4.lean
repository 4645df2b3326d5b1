import Derived.Test.YtaehmaocibimeaaW3
set_option linter.unusedSimpArgs false
set_option linter.unusedVariables false
namespace Go.Proofs.Ytaehmaocibimeaa
open Go.RowKit

structure Fd where
  id : Int
  prog : Int
  at_ : Int
  when : Int
def Fd.cells (f : Fd) : List Value := [.int .i64 f.id, .int .i64 f.prog, .int .i64 f.at_, .int .u64 f.when]
theorem Fd.cells_len (f : Fd) : f.cells.length = 4 := rfl
theorem Fd.cells_one (f : Fd) : ∀ u ∈ f.cells, u.oneCell' = true := by simp [Fd.cells, Value.oneCell']
theorem info37 : (Try.prog.info? 37).map (fun i => (i.zero, i.size, i.bytes)) = some (some (.agg #[.int .i64 0, .int .i64 0, .int .i64 0, .int .u64 0]), 4, 32) := by kernel_rfl

/-- the ticking, round by round -/
inductive Ticks (to : Int) : WS → List Fd → WS → Prop
  | stop0 {S : WS} : S.due = [] → Ticks to S [] S
  | stop1 {S : WS} {d : Tm} {r : List Tm} : S.due = d :: r → to < d.when → Ticks to S [] S
  | skip {S S' : WS} {n : Nat} {x d : Tm} {r : List Tm} {o : List Fd} : S.due = d :: r → d.when ≤ to → S.due.length = n + 1 → (popX S.due n)[n]? = some x → cntB { S with due := (popX S.due n).take n } x = false →
      Ticks to { S with due := (popX S.due n).take n } o S' → Ticks to S o S'
  | fire {S S' : WS} {n : Nat} {x d : Tm} {r : List Tm} {o : List Fd} {g : Nat} {t : Tm} : S.due = d :: r → d.when ≤ to → S.due.length = n + 1 → (popX S.due n)[n]? = some x → lookI S.all x.id = some (g, t) → t.start = x.start → 0 < t.start →
      Ticks to { S with due := (popX S.due n).take n, all := updI S.all x.id (g, { t with start := 0 }) } o S' → Ticks to S (⟨t.id, t.prog, t.at_, t.when⟩ :: o) S'

theorem cntB_true {S : WS} {x : Tm} (h : cntB S x = true) : ∃ g t, lookI S.all x.id = some (g, t) ∧ t.start = x.start ∧ 0 < t.start := by
  unfold cntB at h
  cases hl : lookI S.all x.id with
  | none => rw [hl] at h; cases h
  | some y =>
    obtain ⟨g, t⟩ := y
    rw [hl] at h
    simp only [Bool.and_eq_true, beq_iff_eq, decide_eq_true_eq] at h
    exact ⟨g, t, rfl, h.1, h.2⟩

theorem fp_sub {p m : Nat} {v v' : Value} {S S' : WS} (hv : v'.ownBlock = v.ownBlock) (ha : S'.all.map (fun x => (x.1, x.2.1)) = S.all.map fun x => (x.1, x.2.1)) {k : Nat} (h : fpW p m v' S' k) : fpW p m v S k := by
  rcases h with h | h | h | ⟨x, hx, rfl⟩
  · exact .inl h
  · exact .inr (.inl h)
  · exact .inr (.inr (.inl (by rw [← hv]; exact h)))
  · have : (x.1, x.2.1) ∈ S.all.map fun x => (x.1, x.2.1) := by rw [← ha]; exact List.mem_map.2 ⟨x, hx, rfl⟩
    obtain ⟨y, hy, he⟩ := List.mem_map.1 this
    simp only [Prod.mk.injEq] at he
    exact .inr (.inr (.inr ⟨y, hy, he.2.symm⟩))
theorem upd_ids {l : List (Int × (Nat × Tm))} {x : Int} {g : Nat} {t t' : Tm} (h : lookI l x = some (g, t)) : (updI l x (g, t')).map (fun x => (x.1, x.2.1)) = l.map fun x => (x.1, x.2.1) := by
  induction l with
  | nil => cases h
  | cons y r ih =>
    obtain ⟨k, v⟩ := y
    simp only [lookI] at h
    simp only [updI]
    split at h
    · rename_i e; cases h; rw [if_pos e]; simp
    · rename_i e; rw [if_neg e]; simp only [List.map_cons] at ih ⊢; rw [ih h]
def meaW (p : Nat) (w : World) : Nat := match w.cell? ⟨p, 3, none⟩ with | some (.slice _ n _) => n | _ => 0
theorem IsW.mea {w : World} {p m : Nat} {v : Value} {S : WS} (h : IsW w p m v S) : meaW p w = S.due.length := by
  obtain ⟨A, c, rfl⟩ := h.own.any
  unfold meaW
  rw [h.blk.cell]
  simp

set_option maxHeartbeats 400000 in
theorem tick_bad (p m : Nat) (v : Value) (S : WS) (to : Int) (w : World) (h : IsW w p m v S) (ht : to < S.now) :
    Calls Try.prog 11 #[.pointer (some ⟨p, 0, none⟩), .int .u64 to] w fun e w' => e = .returned (.tuple #[.slice none 0 0, .int .i64 122]) ∧ w = w' := by
  have hb := h.blk.cell
  go_enter Try.func11, Try.ntmps11
  go_wp2
  go_ret2
  exact ⟨rfl, rfl⟩

set_option maxHeartbeats 2000000 in
theorem tick_ok (p m : Nat) (v : Value) (S : WS) (to : Int) (w : World) (h : IsW w p m v S) (ht : S.now ≤ to) (ht2 : to < 18446744073709551616) :
    Calls Try.prog 11 #[.pointer (some ⟨p, 0, none⟩), .int .u64 to] w fun e w' => ∃ ov outs v' S', e = .returned (.tuple #[ov, .int .i64 0]) ∧ Sl w' 37 4 ov (outs.map Fd.cells) ∧ (∀ g, ov.ownBlock = some g → w.heap.size ≤ g) ∧ IsW w' p m v' S' ∧ v'.ownBlock = v.ownBlock ∧
      (S'.all.map (fun x => (x.1, x.2.1)) = S.all.map fun x => (x.1, x.2.1)) ∧ Ticks to { S with now := to } outs S' ∧ Kept (fpW p m v S) w w' := by
  obtain ⟨i0, hI0, hI1, hI2, hI3⟩ := info_parts info37
  have hp := h.blk.lt
  have hb := h.blk.cell
  have hfp := h.blk.frozen
  have hn0 := h.now0
  go_enter Try.func11, Try.ntmps11
  go_wp2
  have hW1 : IsW (w.setCell ⟨p, 0, none⟩ (.int .u64 to)) p m v { S with now := to } := by
    have hk : Kept (fun k => k = p) w (w.setCell ⟨p, 0, none⟩ (.int .u64 to)) := Kept.setCell (F := fun k => k = p) (Kept.refl _ w) (fun _ => rfl) _
    exact ⟨h.blk.set_ 0 _, h.map.kept hk h.m_ne_p, fun x hx => hk.blk (h.g_ne_p hx) (h.tms x hx), Sl.kept hk h.own (fun g hg e => h.ne_p (by rw [hg, e])), h.sep, h.nod, by show (0:Int) ≤ to; omega, ht2, h.st0, h.st1, h.small⟩
  have hK1 : Kept (fpW p m v S) w (w.setCell ⟨p, 0, none⟩ (.int .u64 to)) := Kept.setCell (Kept.refl _ w) (fun _ => .inl rfl) _
  generalize w.setCell ⟨p, 0, none⟩ (.int .u64 to) = wa at *
  clear hb hfp
  go_loopw [6] (fun ov wr => ∃ (outs : List Fd) (v' : Value) (S' : WS), Sl wr 37 4 ov (outs.map Fd.cells) ∧ (∀ g, ov.ownBlock = some g → w.heap.size ≤ g) ∧ IsW wr p m v' S' ∧ v'.ownBlock = v.ownBlock ∧
      (S'.all.map (fun x => (x.1, x.2.1)) = S.all.map fun x => (x.1, x.2.1)) ∧ (∀ o S2, Ticks to S' o S2 → Ticks to { S with now := to } (outs ++ o) S2) ∧ Kept (fpW p m v S) w wr ∧ outs.length + S'.due.length ≤ 1000000 ∧ S'.now = to) (fun _ wr => meaW p wr)
  case atStart => exact ⟨[], v, _, Sl.nil _ _ _, by simp [Value.ownBlock], hW1, rfl, rfl, fun o S2 h => h, hK1, by have := h.small; have := h.st1; simp; omega, rfl⟩
  case round =>
    obtain ⟨outs, v', S', hO, hOb, hW, hv', hal, hT, hK, hsm, hnow⟩ := hrel
    have HT := Lib.hid hT
    have HN := Lib.hid hnow
    have HA := Lib.hid hal
    have HV := Lib.hid hv'
    clear hT hnow hal hv'
    have hp' := hW.blk.lt
    cases hdue : S'.due with
    | nil =>
      obtain ⟨A, c, rfl⟩ := hW.own.any
      have hb := hW.blk.cell
      simp only [hdue, List.map_nil, List.length_nil] at hb
      have hF : Ticks to { S with now := to } outs S' := by have := HT.out [] S' (.stop0 hdue); rwa [List.append_nil] at this
      have HF := Lib.hid hF
      clear hF HT
      go_wp2_with (go_at_call 29; refine (len_any _ _ _ _).mono ?_; rintro e w1 ⟨rfl, rfl⟩)
      go_ret2
      exact ⟨_, outs, _, S', rfl, hO, hOb, hW, HV.out, HA.out, HF.out, hK⟩
    | cons d r =>
      have hlen : S'.due.length = r.length + 1 := by rw [hdue]; rfl
      obtain ⟨g0, cap, rfl, hcap, hg0⟩ := hW.own.some_ (by simp [hlen])
      have hb := hW.blk.cell
      have hx := hW.own.cells (i := 0) (by omega)
      simp only [hdue, List.getElem_cons_zero, Nat.zero_mul, Nat.zero_add] at hx
      obtain ⟨_, _, _, _, hx4, _⟩ := hx
      simp only [List.length_map, hlen] at hb
      have hr1 : r.length + 1 ≤ 1000000 := by omega
      by_cases hd : d.when ≤ to
      case neg =>
        have hd' : to < d.when := by omega
        have hF : Ticks to { S with now := to } outs S' := by have := HT.out [] S' (.stop1 hdue hd'); rwa [List.append_nil] at this
        have HF := Lib.hid hF
        clear hF HT hd
        go_wp2_with (go_at_call 29; refine (len_any _ _ _ _).mono ?_; rintro e w1 ⟨rfl, rfl⟩)
        go_ret2
        exact ⟨_, outs, _, S', rfl, hO, hOb, hW, HV.out, HA.out, HF.out, hK⟩
      have hD : D wr ⟨p, 3, none⟩ (.slice (some ⟨g0, 0, none⟩) (r.length + 1) cap) S'.due := ⟨by rw [hb]; rfl, hW.blk.frozen 3, by have := hW.own; simp only [List.length_map, hlen] at this; exact this, by have := hW.ne_p; exact this, by have := hW.small; have := hW.st1; omega⟩
      have hta := ta70
      go_wp2_with (first
        | (go_at_call 29; refine (len_any _ _ _ _).mono ?_; rintro e w1 ⟨rfl, rfl⟩)
        | (go_at_call 30; refine (hpop_any ⟨p, 3, none⟩ _ S'.due r.length wr hD hlen).mono ?_; rintro e w1 ⟨x, hxx, rfl, v1, hD1, hv1, hk1, hb1⟩; rw [show x.cells.toArray = #[.int .i64 x.id, .int .i64 x.prog, .int .i64 x.at_, .bool x.has, .int .u64 x.when, .int .i64 x.start] from rfl]))
      -- the popped timer
      have hW2 : IsW w1 p m v1 { S' with due := (popX S'.due r.length).take r.length } := hW.popped hD1 hk1 (by have := hb1 66 _ hW.blk; simpa using this) hv1 (by simp [popX_len]; omega)
      have HX := Lib.hid hxx
      have HB := Lib.hid hb1
      clear hxx hb1 hb hx4
      have hp1 : p < w1.heap.size := hW2.blk.lt
      have hlt0 : p < w.heap.size := h.fp_lt (.inl rfl)
      have hvlt : ∀ k, v.ownBlock = some k → k < w.heap.size := fun k hk => h.fp_lt (.inr (.inr (.inl hk)))
      have hvg : v.ownBlock = some g0 := by have := HV.out; rw [← this]; rfl
      have hk1' : Kept (fun k => k = p ∨ v.ownBlock = some k) wr w1 := by rw [hvg]; exact hk1
      have hO1 : Sl w1 37 4 u6 (outs.map Fd.cells) := hO.kept hk1' (fun g hg e => by
        have := hOb g hg
        rcases e with e | e
        · omega
        · have := hvlt g e; omega)
      have hK1 : Kept (fpW p m v S) w w1 := Kept.trans hK hk1' (fun x _ hx => by rcases hx with e | e; exact .inl e; exact .inr (.inr (.inl e)))
      have hm0 : meaW p wr = r.length + 1 := by rw [hW.mea, hlen]
      have hl1 : ((popX S'.due r.length).take r.length).length = r.length := by simp [popX_len]; omega
      have hv1' : v1.ownBlock = v.ownBlock := hv1.trans HV.out
      have HM := Lib.hid hm0
      have HL1 := Lib.hid hl1
      have HV1 := Lib.hid hv1'
      have HVG := Lib.hid hvg
      have HDU := Lib.hid hdue
      have HLEN := Lib.hid hlen
      clear hm0 hl1 hv1' hv1 hvg hk1 hD1 hdue hlen
      have hWa := hW2.kept (F := fun _ => False) (Kept.alloc (Kept.refl _ w1) (.cells #[.int .i64 x.id, .int .i64 x.prog, .int .i64 x.at_, .bool x.has, .int .u64 x.when, .int .i64 x.start] 70)) (fun _ _ h => h)
      cases hc : cntB { S' with due := (popX S'.due r.length).take r.length } x
      · refine (counts_any p m v1 _ x _ hWa).mono ?_
        rintro e w2 ⟨rfl, hk2⟩
        rw [hc]
        go_wp2_with fail
        have hW3 := hWa.kept hk2 (fun _ _ h => h)
        go_roundw
        case rel =>
          exact ⟨outs, v1, _, (hO1.alloc _).kept hk2 (fun _ _ h => h), hOb, hW3, HV1.out, HA.out, fun o S2 hh => HT.out o S2 (.skip HDU.out hd HLEN.out HX.out hc hh), (hK1.alloc _).trans hk2 (fun _ _ h => h.elim), by show outs.length + List.length _ ≤ _; rw [HL1.out]; have := HLEN.out; omega, HN.out⟩
        case measure =>
          rw [HM.out, hW3.mea]
          show List.length _ < _
          rw [HL1.out]
          omega
      · obtain ⟨g, t, hl, hst, hpos⟩ := cntB_true hc
        have hl' : lookI S'.all x.id = some (g, t) := hl
        refine (counts_any p m v1 _ x _ hWa).mono ?_
        rintro e w2 ⟨rfl, hk2⟩
        rw [hc]
        have hW3 := hWa.kept hk2 (fun _ _ h => h)
        have hO3 : Sl w2 37 4 u6 (outs.map Fd.cells) := (hO1.alloc _).kept hk2 (fun _ _ h => h)
        have hK3 : Kept (fpW p m v S) w w2 := (hK1.alloc _).trans hk2 (fun _ _ h => h.elim)
        have hbx : Blk w2 w1.heap.size 70 #[.int .i64 x.id, .int .i64 x.prog, .int .i64 x.at_, .bool x.has, .int .u64 x.when, .int .i64 x.start] := hk2.blk (fun h => h) (Blk.new w1 _ _)
        have hcp := hW3.blk.cell
        have hcx := hbx.cell
        have hg := hW3.tms _ (look_mem hl)
        have hcg := hg.cell
        have hfg := hg.frozen
        simp only [Tm.cells] at hcg
        have hlk := hW3.map.drew.look1 (P := Try.prog) Try.underlying62 Try.underlying3 zero67 x.id
        rw [look_ptrs, hl] at hlk
        simp only [Option.map_some, Option.getD_some] at hlk
        have HC := Lib.hid hc
        clear hc
        have HST := Lib.hid hst
        have HLK := Lib.hid hl
        have HLK' := Lib.hid hl'
        clear hst hl hl'
        go_wp2_with fail
        refine wp_region_mix0 [.w, .w, .w, .l, .w, .l, .l, .t] (by kernel_rfl) (by kernel_rfl) ?_
        repeat (first
          | (refine mix_w1 ?_; go_big_quiet_step (fail); refine wpQuiet_nil ?_)
          | (refine mix_l1 rfl ?_; go_big_quiet_step (fail); refine wpQuiet_nil ?_)
          | (refine mix_t fun Q' hQ' => ?_; go_wp2))
        refine mix_nil ?_
        go_wp2_with fail
        refine wp_region_mix0 [.w, .w, .w, .w, .l, .w, .w, .w, .l, .w, .w, .w, .l, .w, .w, .w, .l, .w, .t, .t, .t] (by kernel_rfl) (by kernel_rfl) ?_
        repeat (first
          | (refine mix_w1 ?_; go_big_quiet_step (fail); refine wpQuiet_nil ?_)
          | (refine mix_l1 rfl ?_; go_big_quiet_step (fail); refine wpQuiet_nil ?_))
        refine mix_t fun Q' hQ' => ?_
        go_wp2
        have hng : u6.ownBlock ≠ some g := fun e => by
          have h1 := hOb g e
          have h2 := h.fp_lt (fp_sub (p := p) (m := m) HV1.out (S' := S') HA.out (.inr (.inr (.inr ⟨_, look_mem HLK'.out, rfl⟩))))
          have h3 : g < w.heap.size := h2
          omega
        have hk4 : Kept (fun k => k = g) w2 (w2.setCell ⟨g, 5, none⟩ (.int .i64 0)) := Kept.setCell (F := fun k => k = g) (Kept.refl _ w2) (fun _ => rfl) _
        have hW4 : IsW (w2.setCell ⟨g, 5, none⟩ (.int .i64 0)) p m v1 { S' with due := (popX S'.due r.length).take r.length, all := updI S'.all x.id (g, { t with start := 0 }) } :=
          hW3.updT HLK.out hk4 (by have := (hW3.tms _ (look_mem HLK.out)).set_ 5 (.int .i64 0); exact this)
        have hO4 : Sl (w2.setCell ⟨g, 5, none⟩ (.int .i64 0)) 37 4 u6 (outs.map Fd.cells) := hO3.kept hk4 (fun g' hg' e => hng (by rw [hg', e]))
        have hgfp : fpW p m v S g := fp_sub (p := p) (m := m) HV1.out (S' := S') HA.out (.inr (.inr (.inr ⟨_, look_mem HLK'.out, rfl⟩)))
        have hK4 : Kept (fpW p m v S) w (w2.setCell ⟨g, 5, none⟩ (.int .i64 0)) := hK3.setCell (fun _ => hgfp) _
        have hsz : (w2.setCell ⟨g, 5, none⟩ (.int .i64 0)).heap.size = w2.heap.size := by simp [World.setCell]
        generalize hw4 : w2.setCell ⟨g, 5, none⟩ (.int .i64 0) = w4 at *
        clear hw4 hcp hcx hcg hfg hlk
        refine mix_t fun Q' hQ' => ?_
        go_wp2_with (at_builtin; refine wpList_push (w := w4.drew.drew) rfl (.tmp 56) (.tmp 74) 33 rfl Try.underlying33 hI0 hI1 hI2 hI3 rfl (by omega) u6 (outs.map Fd.cells) (Fd.cells ⟨t.id, t.prog, t.at_, t.when⟩) rfl (by rw [show w4.drew.drew.heap.size = w2.heap.size from hsz]; rfl) hO4.drew.drew rfl (Fd.cells_one _) (by simp; omega) (by omega) ?_; intro g5 cap5 w5 hS5 hk5 hg5)
        refine mix_t fun Q' hQ' => ?_
        go_wp2
        refine mix_nil ?_
        have hk5' : Kept (fun k => u6.ownBlock = some k) w4 w5 := Kept.trans (Kept.drewN (Kept.refl _ w4) 2) hk5 (fun _ _ h => h)
        have hW5 : IsW w5 p m v1 { S' with due := (popX S'.due r.length).take r.length, all := updI S'.all x.id (g, { t with start := 0 }) } := hW4.kept hk5' (fun k hk e => by
          have h1 := hOb k e
          have h2 := h.fp_lt (fp_sub (S := S) (v := v) HV1.out ((upd_ids HLK'.out).trans HA.out) hk)
          omega)
        have hids : (updI S'.all x.id (g, ({ t with start := 0 } : Tm))).map (fun x => (x.1, x.2.1)) = S.all.map fun x => (x.1, x.2.1) := (upd_ids HLK'.out).trans HA.out
        have hlen5 : (outs.map Fd.cells).length = outs.length := by simp
        go_roundw
        case rel =>
          repeat apply Exists.intro
          refine ⟨?_, rfl⟩
          refine ⟨outs ++ [⟨t.id, t.prog, t.at_, t.when⟩], v1, _, by simpa using hS5, ?_, hW5, HV1.out, hids, ?_, Kept.trans hK4 hk5' (fun x hx e => by have := hOb x e; omega), ?_, HN.out⟩
          · intro g' hg'
            simp only [Value.ownBlock, Option.some.injEq] at hg'
            subst hg'
            rcases hg5 with e | e
            · exact hOb _ e
            · have : w4.heap.size ≤ g5 := e
              have := hK4.size
              omega
          · intro o S2 hh
            have := HT.out _ S2 (.fire HDU.out hd HLEN.out HX.out HLK'.out HST.out hpos hh)
            simpa using this
          · show List.length _ + List.length _ ≤ _
            rw [HL1.out]
            have := HLEN.out
            simp
            omega
        case measure =>
          rw [HM.out, hW5.mea]
          show List.length _ < _
          rw [HL1.out]
          omega

end Go.Proofs.Ytaehmaocibimeaa
