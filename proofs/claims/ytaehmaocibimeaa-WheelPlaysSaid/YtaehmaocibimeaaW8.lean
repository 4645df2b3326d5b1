import Derived.Test.YtaehmaocibimeaaW7
set_option linter.unusedSimpArgs false
set_option linter.unusedVariables false
namespace Go.Proofs.Ytaehmaocibimeaa
open Go.RowKit

theorem info3 : (Try.prog.info? 3).map (fun i => (i.zero, i.size, i.bytes)) = some (some (.int .i64 0), 1, 8) := by kernel_rfl
def icell (n : Int) : List Value := [.int .i64 n]
theorem icell_one (n : Int) : ∀ u ∈ icell n, u.oneCell' = true := by simp [icell, Value.oneCell']
def meaD (b : Nat) (w : World) : Nat := match w.cell? ⟨b, 0, none⟩ with | some (.slice _ n _) => n | _ => 0
theorem D.mea {w : World} {b : Nat} {v : Value} {L : List Tm} (h : D w ⟨b, 0, none⟩ v L) : meaD b w = L.length := by
  obtain ⟨A, c, rfl⟩ := h.own.any
  unfold meaD
  rw [h.cell]
  simp

set_option maxHeartbeats 2000000 in
theorem armed_any (p m : Nat) (v : Value) (S : WS) (w : World) (h : IsW w p m v S) :
    Calls Try.prog 14 #[.pointer (some ⟨p, 0, none⟩)] w fun e w' => ∃ ov outs, e = .returned ov ∧ Sl w' 3 1 ov (outs.map icell) ∧ (∀ g, ov.ownBlock = some g → w.heap.size ≤ g) ∧ Arms S S.due outs ∧ Kept (fun _ => False) w w' := by
  obtain ⟨i0, hI0, hI1, hI2, hI3⟩ := info_parts info3
  have hb := h.blk.cell
  have hsm : S.due.length ≤ 1000000 := by have := h.small; have := h.st1; omega
  go_enter Try.func14, Try.ntmps14
  go_wp2_with fail
  refine (clone_any v S.due w h.own hsm).mono ?_
  rintro e w1 ⟨rv, rfl, hO1, hOb1, hk1⟩
  obtain ⟨A0, c0, rfl⟩ := hO1.any
  simp only [List.length_map] at hO1 hOb1
  generalize hq : S.due.length = n0 at *
  go_wp2_with fail
  have hsz1 := hk1.size
  have hD1 : D (w1.alloc (.cells #[.slice A0 n0 c0] 64)) ⟨w1.heap.size, 0, none⟩ (.slice A0 n0 c0) S.due := ⟨by rw [(Blk.new w1 64 #[.slice A0 n0 c0]).cell]; rfl, (Blk.new w1 64 #[.slice A0 n0 c0]).frozen 0, hO1.alloc _, fun e => by have := hO1.lt _ e; simp at this, by omega⟩
  have hk2 : Kept (fun _ => False) w (w1.alloc (.cells #[.slice A0 n0 c0] 64)) := hk1.alloc _
  have hrb := hO1.lt
  generalize hv0 : Value.slice A0 n0 c0 = rv at *
  generalize hbb : w1.heap.size = b at *
  generalize hw2 : w1.alloc (.cells #[rv] 64) = w2 at *
  have hW2 : IsW w2 p m v S := h.kept hk2 (fun _ _ h => h)
  have hb0 : w.heap.size ≤ b := by omega
  clear hb hw2 hv0 hO1 hk1 hbb
  go_loopw [4] (fun ov wr => ∃ (outs : List Int) (v' : Value) (L : List Tm), Sl wr 3 1 ov (outs.map icell) ∧ (∀ g, ov.ownBlock = some g → w.heap.size ≤ g ∧ rv.ownBlock ≠ some g ∧ g ≠ b) ∧ D wr ⟨b, 0, none⟩ v' L ∧ v'.ownBlock = rv.ownBlock ∧ IsW wr p m v S ∧
      Kept (fun _ => False) w wr ∧ (∀ o, Arms S L o → Arms S S.due (outs ++ o)) ∧ outs.length + L.length ≤ 1000000) (fun _ wr => meaD b wr)
  case atStart => exact ⟨[], rv, S.due, Sl.nil _ _ _, by simp [Value.ownBlock], hD1, rfl, hW2, hk2, fun o h => h, by simp; omega⟩
  case round =>
    obtain ⟨outs, v', L, hO, hOb, hD, hv', hW, hK, hC, hlen⟩ := hrel
    have hcell := hD.cell
    have hmea := hD.mea
    have HM := Lib.hid hmea
    have HC := Lib.hid hC
    clear hmea hC
    obtain ⟨A, c, rfl⟩ := hD.own.any
    cases L with
    | nil =>
      simp only [List.map_nil, List.length_nil] at hcell hO hD hv'
      have hF : Arms S S.due outs := by have := HC.out [] .nil; rwa [List.append_nil] at this
      have HF := Lib.hid hF
      clear hF
      go_wp2_with (go_at_call 29; refine (len_any _ _ _ _).mono ?_; rintro e w1 ⟨rfl, rfl⟩)
      go_ret
      exact ⟨_, outs, rfl, hO, fun g hg => (hOb g hg).1, HF.out, hK⟩
    | cons d r =>
      simp only [List.length_map, List.length_cons] at hcell hD hv' hlen
      have hta := ta70
      go_wp2_with (first
        | (go_at_call 29; refine (len_any _ _ _ _).mono ?_; rintro e w1 ⟨rfl, rfl⟩)
        | (go_at_call 30; refine (hpop_any ⟨b, 0, none⟩ _ (d :: r) r.length wr hD rfl).mono ?_; rintro e w1 ⟨x, hxx, rfl, v1, hD1, hv1, hk1, hb1⟩; rw [show x.cells.toArray = #[.int .i64 x.id, .int .i64 x.prog, .int .i64 x.at_, .bool x.has, .int .u64 x.when, .int .i64 x.start] from rfl]))
      have hblt : b < wr.heap.size := hD.lt
      have hp1 := hxx
      have hrlt : ∀ g, rv.ownBlock = some g → w.heap.size ≤ g := hOb1
      have hk1' : Kept (fun k => k = b ∨ rv.ownBlock = some k) wr w1 := by rw [← hv']; exact hk1
      have hW1 : IsW w1 p m v S := hW.kept hk1' (fun k hk e => by
        have h1 := h.fp_lt hk
        rcases e with e | e
        · have := hb0; omega
        · have := hrlt k e; omega)
      have hO1 : Sl w1 3 1 u4 (outs.map icell) := hO.kept hk1' (fun g hg e => by
        rcases e with e | e
        · exact (hOb g hg).2.2 e
        · exact (hOb g hg).2.1 e)
      have hK1 : Kept (fun _ => False) w w1 := Kept.trans hK hk1' (fun k hk e => by
        rcases e with e | e
        · have := hb0; omega
        · have := hrlt k e; omega)
      have hv1' : v1.ownBlock = rv.ownBlock := hv1.trans hv'
      have hl1 : ((popX (d :: r) r.length).take r.length).length = r.length := by simp [popX_len]
      have HX := Lib.hid hxx
      have HL1 := Lib.hid hl1
      have HV1 := Lib.hid hv1'
      clear hcell hk1 hb1 hl1 hv1' hv1 hxx hp1
      have hWa := hW1.kept (F := fun _ => False) (Kept.alloc (Kept.refl _ w1) (.cells #[.int .i64 x.id, .int .i64 x.prog, .int .i64 x.at_, .bool x.has, .int .u64 x.when, .int .i64 x.start] 70)) (fun _ _ h => h)
      refine (counts_any p m v S x _ hWa).mono ?_
      rintro e w2 ⟨rfl, hk2⟩
      have hka : Kept (fun _ => False) w1 w2 := Kept.trans (Kept.alloc (Kept.refl _ w1) _) hk2 (fun _ _ h => h)
      have hD2 : D w2 ⟨b, 0, none⟩ v1 ((popX (d :: r) r.length).take r.length) := hD1.kept hka hD1.lt (fun h => h) (fun _ _ h => h)
      have hW2 : IsW w2 p m v S := hW1.kept hka (fun _ _ h => h)
      have hO2 : Sl w2 3 1 u4 (outs.map icell) := hO1.kept hka (fun _ _ h => h)
      have hK2 : Kept (fun _ => False) w w2 := hK1.trans hka (fun _ _ h => h)
      have hbx : Blk w2 w1.heap.size 70 #[.int .i64 x.id, .int .i64 x.prog, .int .i64 x.at_, .bool x.has, .int .u64 x.when, .int .i64 x.start] := hk2.blk (fun h => h) (Blk.new w1 _ _)
      have hcx := hbx.cell
      cases hc : cntB S x
      · go_wp2_with fail
        go_roundw
        case rel =>
          exact ⟨outs, v1, _, hO2, hOb, hD2, HV1.out, hW2, hK2, fun o hh => HC.out o (.skip rfl HX.out hc hh), by rw [HL1.out]; omega⟩
        case measure =>
          rw [HM.out, hD2.mea, HL1.out]
          simp
      · go_wp2_with (at_builtin; refine wpList_push (w := w2) rfl (.tmp 20) (.tmp 23) 43 rfl Try.underlying43 hI0 hI1 hI2 hI3 rfl (by omega) u4 (outs.map icell) (icell x.id) rfl rfl hO2 rfl (icell_one _) (by simp; omega) (by omega) ?_; intro g5 cap5 w5 hS5 hk5 hg5)
        have hk5' : Kept (fun _ => False) w w5 := hK2.trans hk5 (fun k hk e => by have := (hOb k e).1; omega)
        have hD5 : D w5 ⟨b, 0, none⟩ v1 ((popX (d :: r) r.length).take r.length) := hD2.kept hk5 hD2.lt (fun e => (hOb _ e).2.2 rfl) (fun g hg e => (hOb _ e).2.1 (by rw [← HV1.out]; exact hg))
        have hW5 : IsW w5 p m v S := hW2.kept hk5 (fun k hk e => by have h1 := h.fp_lt hk; have := (hOb k e).1; omega)
        have hz2 := hK2.size
        have hD2lt : b < w2.heap.size := hD2.lt
        have hrw2 := hD2.own.lt
        go_roundw
        case rel =>
          refine ⟨outs ++ [x.id], v1, _, by simpa using hS5, ?_, hD5, HV1.out, hW5, hk5', ?_, ?_⟩
          · intro g' hg'
            simp only [Value.ownBlock, Option.some.injEq] at hg'
            subst hg'
            rcases hg5 with e | e
            · exact hOb _ e
            · refine ⟨by omega, fun e' => ?_, by omega⟩
              have := hrw2 g5 (by rw [HV1.out]; exact e')
              omega
          · intro o hh
            have := HC.out _ (.take rfl HX.out hc hh)
            simpa using this
          · rw [HL1.out]
            simp
            omega
        case measure =>
          rw [HM.out, hD5.mea, HL1.out]
          simp

end Go.Proofs.Ytaehmaocibimeaa
