import Derived.Test.YtaehmaocibimeaaL1
set_option linter.unusedSimpArgs false
set_option linter.unusedVariables false
namespace Go.Proofs.Ytaehmaocibimeaa
open Go.RowKit

theorem wpList_unguard {P : Program} {w : World} {ops : Array Oper} {rest : List Oper} {o : Oper} {a : Act} {Q : Exit → Act → World → Prop} (hw : Region.wanted o (yielded ops a.tmps) = true)
    (h : wpList P ops Q ({ o with guard := none } :: rest) a w) : wpList P ops Q (o :: rest) a w := by
  unfold wpList at h ⊢
  rw [if_pos (by simp [Region.wanted])] at h
  rw [if_pos hw]
  exact h

theorem new_two (w0 w : World) (hk : Kept (fun _ => False) w0 w) : Calls Try.prog 7 #[] w fun e w1 => e = .returned (.pointer (some ⟨w.heap.size + 1, 0, none⟩)) ∧ w.heap.size + 1 < w1.heap.size ∧
    Calls Try.prog 7 #[] w1 fun e w2 => e = .returned (.pointer (some ⟨w1.heap.size + 1, 0, none⟩)) ∧ Two w0 w2 (w.heap.size + 1) w.heap.size (.slice none 0 0) ⟨0, 0, [], []⟩ (w1.heap.size + 1) w1.heap.size (.slice none 0 0) ⟨0, 0, [], []⟩ := by
  have hs := hk.size
  refine (new_any w).mono fun e w1 ⟨h1, h2, h3, h4⟩ => ⟨h1, h4, ?_⟩
  refine (new_any w1).mono fun e w2 ⟨g1, g2, g3, g4⟩ => ⟨g1, ?_⟩
  have fpa : ∀ (p m k : Nat), fpW p m (.slice none 0 0) ⟨0, 0, [], []⟩ k → k = p ∨ k = m := fun p m k h => by
    rcases h with h | h | h | ⟨x, hx, h⟩
    · exact .inl h
    · exact .inr h
    · simp [Value.ownBlock] at h
    · cases hx
  refine ⟨h2.kept g3 (fun _ _ h => h), g2, fun k ha hb => ?_, fun k ha => ?_, fun k hb => ?_, Kept.trans (Kept.trans hk h3 (fun _ _ h => h)) g3 (fun _ _ h => h)⟩
  · have := fpa _ _ _ ha; have := fpa _ _ _ hb; omega
  · have := fpa _ _ _ ha; omega
  · have := fpa _ _ _ hb; omega

def addAll (f : Nat → Int) (gs : Nat → Nat) : Nat → WS
  | 0 => ⟨0, 0, [], []⟩
  | k + 1 => addT (addAll f gs k) (gs k) k 1 k (f k % 50)

theorem addAll_good (f : Nat → Int) (gs : Nat → Nat) : ∀ k : Nat, Good (fun i => f i.toNat % 50) k (addAll f gs k) ∧ (addAll f gs k).now = 0 ∧ (addAll f gs k).starts = k
  | 0 => ⟨⟨by simp [addAll], by simp [addAll], fun j h0 hj => by simp [addAll] at hj⟩, rfl, rfl⟩
  | k + 1 => by
    obtain ⟨h1, h2, h3⟩ := addAll_good f gs k
    refine ⟨?_, h2, ?_⟩
    · have := addT_good (n := k) (g := gs k) (pr := 1) (at_ := (k : Int)) (after := f k % 50) h1 (by omega) (by rw [h2]; simp)
      exact this
    · show (addAll f gs k).starts + 1 = _
      rw [h3]; omega
theorem addAll_era (f : Nat → Int) (gs gs' : Nat → Nat) : ∀ k, era (addAll f gs k) = era (addAll f gs' k)
  | 0 => rfl
  | k + 1 => by
    show era (addT (addAll f gs k) (gs k) k 1 k (f k % 50)) = era (addT (addAll f gs' k) (gs' k) k 1 k (f k % 50))
    rw [era_addT, era_addT, addAll_era f gs gs' k]
theorem addAll_len (f : Nat → Int) (gs : Nat → Nat) : ∀ k, (addAll f gs k).due.length = k
  | 0 => rfl
  | k + 1 => by
    show (fixL _ _).length = _
    rw [fixL_len]
    simp [addAll_len f gs k]
theorem addAll_cong (f : Nat → Int) (gs gs' : Nat → Nat) : ∀ k, (∀ j, j < k → gs j = gs' j) → addAll f gs k = addAll f gs' k
  | 0, _ => rfl
  | k + 1, h => by
    show addT (addAll f gs k) (gs k) k 1 k _ = addT (addAll f gs' k) (gs' k) k 1 k _
    rw [addAll_cong f gs gs' k (fun j hj => h j (by omega)), h k (by omega)]
theorem addAll_none (f : Nat → Int) (gs : Nat → Nat) (k : Nat) : lookI (addAll f gs k).all (k : Int) = none :=
  look_none fun x hx e => by have := ((addAll_good f gs k).1.all x hx).2.1; omega

set_option maxHeartbeats 1000000 in
set_option maxRecDepth 100000 in
theorem law_long (A B : Option Addr) (na ca nb cb : Nat) (w : World) (h : 40 < na ∨ 60 < nb) (ha : na ≤ maxLen) (hb : nb ≤ maxLen) :
    Calls Try.prog 3 #[.slice A na ca, .slice B nb cb] w fun e w' => e = .returned (.bool true) ∧ Below w.heap.size w w' := by
  unfold maxLen at ha hb
  by_cases h1 : 40 < na
  · go_enter Try.func3, Try.ntmps3
    go_wp2_with (go_at_call 6; refine (known_any w).mono ?_; rintro e w1 ⟨rfl, hk1⟩)
    go_ret
    exact ⟨rfl, hk1.below (Nat.le_refl _) (fun _ _ h => h)⟩
  · have h2 : 60 < nb := by omega
    have h1' : na ≤ 40 := by omega
    clear h
    go_enter Try.func3, Try.ntmps3
    go_wp2_with (go_at_call 6; refine (known_any w).mono ?_; rintro e w1 ⟨rfl, hk1⟩)
    go_ret
    exact ⟨rfl, hk1.below (Nat.le_refl _) (fun _ _ h => h)⟩

theorem two_tick {w0 w : World} {pa ma pb mb : Nat} {va vb : Value} {Sa Sb : WS} (h : Two w0 w pa ma va Sa pb mb vb Sb) (to : Int) (h1 : Sa.now ≤ to) (h2 : to < 18446744073709551616) :
    Calls Try.prog 11 #[.pointer (some ⟨pa, 0, none⟩), .int .u64 to] w fun e w' => ∃ ov outs va' S', e = .returned (.tuple #[ov, .int .i64 0]) ∧ Sl w' 37 4 ov (outs.map Fd.cells) ∧ (∀ g, ov.ownBlock = some g → w0.heap.size ≤ g ∧ w.heap.size ≤ g ∧ ¬ fpW pa ma va' S' g ∧ ¬ fpW pb mb vb Sb g) ∧
      Two w0 w' pa ma va' S' pb mb vb Sb ∧ (∀ k, fpW pa ma va' S' k → fpW pa ma va Sa k) ∧ Ticks to { Sa with now := to } outs S' ∧ Kept (fpW pa ma va Sa) w w' := by
  refine (tick_ok pa ma va Sa to w h.a h1 h2).mono ?_
  rintro e w' ⟨ov, outs, va', S', rfl, hO, hOb, hW, hv, ha, hT, hk⟩
  have hs := h.kept.size
  have hfp : ∀ k, fpW pa ma va' S' k → fpW pa ma va Sa k := fun k hk => fp_sub hv ha hk
  exact ⟨ov, outs, va', S', rfl, hO, fun g hg => ⟨by have := hOb g hg; omega, hOb g hg, fun e => by have := h.a.fp_lt (hfp g e); have := hOb g hg; omega, fun e => by have := h.b.fp_lt e; have := hOb g hg; omega⟩,
    h.step hk (fun k _ h => h) hW (fun k hk => .inl (hfp k hk)), hfp, hT, hk⟩

theorem Ticks.now {to : Int} {S S' : WS} {o : List Fd} (h : Ticks to S o S') : S'.now = S.now := by
  induction h with
  | stop0 h => rfl
  | stop1 h1 h2 => rfl
  | skip h1 h2 h3 h4 h5 _ ih => exact ih
  | fire h1 h2 h3 h4 h5 h6 h7 _ ih => exact ih

set_option maxHeartbeats 4000000 in
set_option maxRecDepth 100000 in
theorem law_walk (A B : Option Addr) (na ca nb cb : Nat) (f y : Nat → Int) (w : World) (hA : InSl .u16 65536 w A na f) (hB : InSl .u8 256 w B nb y) (h1 : na ≤ 40) (h2 : nb ≤ 60) :
    Calls Try.prog 3 #[.slice A na ca, .slice B nb cb] w fun e w' => e = .returned (.bool true) ∧ Below w.heap.size w w' := by
  obtain ⟨i0, hI0, hI1, hI2, hI3⟩ := info_parts info37
  go_enter Try.func3, Try.ntmps3
  go_wp2_with fail
  refine (known_any w).mono ?_
  rintro e w1 ⟨rfl, hk1⟩
  go_wp2_with fail
  refine (new_two w w1 hk1).mono ?_
  rintro e w2 ⟨rfl, hz2, hc2⟩
  go_wp2_with fail
  refine hc2.mono ?_
  rintro e w3 ⟨rfl, hT⟩
  generalize hpa : w1.heap.size + 1 = pa at *
  generalize hma : w1.heap.size = ma at *
  generalize hpb : w2.heap.size + 1 = pb at *
  generalize hmb : w2.heap.size = mb at *
  clear hpa hma hpb hmb hc2 hz2 hk1
  go_wp2_with fail
  go_loopw [7] (fun iv wr => ∃ (k : Nat) (ga gb : Nat → Nat) (va vb : Value), iv = .int .i64 k ∧ k ≤ na ∧ Two w wr pa ma va (addAll f ga k) pb mb vb (addAll f gb k)) (fun iv _ => na - (intOf iv).toNat)
  case atStart => exact ⟨0, fun _ => 0, fun _ => 0, _, _, rfl, Nat.zero_le _, hT⟩
  case round =>
    clear hT
    obtain ⟨k, ga, gb, va, vb, rfl, hk, hT⟩ := hrel
    by_cases hlt : k < na
    case neg =>
      obtain rfl : k = na := by omega
      go_wp2_with fail
      -- the steps
      have hG0 := addAll_good f ga k
      have hG0b := addAll_good f gb k
      have hE0 := addAll_era f ga gb k
      have hL0 := addAll_len f ga k
      generalize hS0 : addAll f ga k = S0 at *
      generalize hSb : addAll f gb k = Sb at *
      clear hS0 hSb
      obtain ⟨hGa, hna0, hsa0⟩ := hG0
      obtain ⟨hGb, hnb0, hsb0⟩ := hG0b
      have HE := Lib.hid hE0
      have HL := Lib.hid hL0
      have HN0 := Lib.hid hna0
      have HNb := Lib.hid hnb0
      clear hE0 hL0 hna0 hnb0 hsa0 hsb0
      go_loopw [8, 9, 10] (fun nowv ov iv wr => ∃ (i now : Nat) (outs : List Fd) (va' : Value) (S : WS), nowv = .int .u64 now ∧ iv = .int .i64 i ∧ i ≤ nb ∧ now ≤ 9 * i ∧ S.now = now ∧ Two w wr pa ma va' S pb mb vb Sb ∧ Good (fun i => f i.toNat % 50) k S ∧
        (now = 0 ∨ ∀ x ∈ S.due, (now : Int) < x.when) ∧ Sl wr 37 4 ov (outs.map Fd.cells) ∧ (∀ g, ov.ownBlock = some g → w.heap.size ≤ g ∧ ¬ fpW pa ma va' S g ∧ ¬ fpW pb mb vb Sb g) ∧ outs.length + S.due.length ≤ k ∧
        (∀ t : Int, now ≤ t → ∀ o S2, Ticks t (zn S) o S2 → Ticks t (zn S0) (outs ++ o) S2)) (fun _ _ iv _ => nb - (intOf iv).toNat)
      case atStart => exact ⟨0, 0, [], va, S0, rfl, rfl, Nat.zero_le _, Nat.zero_le _, HN0.out, hT, hGa, .inl rfl, Sl.nil _ _ _, by simp [Value.ownBlock], by have := HL.out; simp; omega, fun t _ o S2 h => h⟩
      case round =>
        clear hT
        obtain ⟨i, now, outs, va', S, rfl, rfl, hi, hnow, hSn, hT, hG, hdue, hO, hOb, hlen, hC⟩ := hrel
        have HSN := Lib.hid hSn
        have HC := Lib.hid hC
        have HDUE := Lib.hid hdue
        clear hSn hC hdue
        by_cases hlt2 : i < nb
        case neg =>
          obtain rfl : i = nb := by omega
          go_wp2_with fail
          refine (two_tick hT now (by rw [HSN.out]; omega) (by omega)).mono ?_
          rintro e w4 ⟨ovL, outsL, vaL, SL, rfl, hOL, hObL, hTL, hfpL, hTkL, hkL⟩
          have hO4 := hO.kept hkL (fun g hg => (hOb g hg).2.1)
          have hlenL := hTkL.len
          have HTKL := Lib.hid hTkL
          have HLENL := Lib.hid hlenL
          clear hTkL hlenL
          go_wp2_with fail
          refine (two_tick hTL.symm now (by rw [HNb.out]; omega) (by omega)).mono ?_
          rintro e w5 ⟨ovF, outsF, vbF, SF, rfl, hOF, hObF, hTF, hfpF, hTkF, hkF⟩
          have hO5 := hO4.kept hkF (fun g hg => (hOb g hg).2.2)
          have hOL5 := hOL.kept hkF (fun g hg => (hObL g hg).2.2.2)
          have hfin : outsF = outs ++ outsL := by
            have h1 : Ticks (now : Int) (zn S) outsL (zn SL) := HTKL.out.zn
            have h2 := HC.out now (by omega) _ _ h1
            have h3 : Ticks (now : Int) (zn Sb) outsF (zn SF) := hTkF.zn
            have h4 : Ticks (now : Int) (era (zn S0)) outsF (era (zn SF)) := by
              have := h3.era
              have e : era (zn Sb) = era (zn S0) := by
                have := HE.out
                unfold era zn at *
                simp only [WS.mk.injEq] at this ⊢
                exact ⟨trivial, this.2.1.symm, this.2.2.1.symm, this.2.2.2.symm⟩
              rw [e] at this
              exact this
            exact (h4.det h2.era).1
          have hl5 : outs.length + outsL.length ≤ k := by
            have h1 := HLENL.out
            have h2 : ({ S with now := (now : Int) } : WS).due.length = S.due.length := rfl
            omega
          have HFIN := Lib.hid hfin
          clear hfin hTkF
          go_wp2_with (at_builtin; refine wpList_unguard rfl ?_; refine wpList_appendSl rfl (.tmp 192) (.tmp 193) 33 rfl Try.underlying33 hI0 hI1 hI2 hI3 rfl (by omega) u9 _ (outs.map Fd.cells) (outsL.map Fd.cells) rfl rfl hO5 hOL5 (fun c hc => by obtain ⟨x, _, rfl⟩ := List.mem_map.1 hc; exact Fd.cells_one x) (by simp; omega) (by omega) ?_; intro v6 w6 hS6 hk6 hv6)
          have hF6 : Sl w6 37 4 ovF ((outs ++ outsL).map Fd.cells) := by
            rw [← HFIN.out]
            exact hOF.kept hk6 (fun g hg e => by
              have h1 := (hObF g hg).2.1
              rcases hO4.lt g e with h2
              omega)
          have hS6' : Sl w6 37 4 v6 ((outs ++ outsL).map Fd.cells) := by
            have hm : List.map Fd.cells outs ++ List.map Fd.cells outsL = (outs ++ outsL).map Fd.cells := by simp
            rw [← hm]
            exact hS6
          refine (fired_same v6 ovF (outs ++ outsL) w6 hS6' hF6 (by simp; omega)).mono ?_
          rintro e w7 ⟨rfl, n7, rfl⟩
          go_wp2_with fail
          go_ret
          refine ⟨rfl, ?_⟩
          have hK6 : Kept (fun _ => False) w (w6.drewN n7) := by
            refine Kept.drewN (Kept.trans hTF.kept hk6 (fun x hx e => ?_)) n7
            have := (hOb x e).1
            omega
          exact hK6.below (Nat.le_refl _) (fun _ _ h => h)
        obtain ⟨b, off, rfl, hbl, hcell⟩ := hB.1 (by omega)
        have hcy : wr.cell? ⟨b, off + i, none⟩ = some (.int .u8 (y i)) := (hT.kept.cell (p := ⟨b, off + i, none⟩) hbl (fun h => h)).trans (hcell i hlt2)
        obtain ⟨hy0, hy1⟩ := hB.2 i
        obtain ⟨N, hN, hNle, hN9⟩ : ∃ N : Nat, (now : Int) + y i % 9 = (N : Int) ∧ now ≤ N ∧ N ≤ now + 8 := ⟨now + (y i % 9).toNat, by omega, by omega, by omega⟩
        go_wp2_with fail
        have HNN := Lib.hid hN
        clear hN
        refine (two_tick hT N (by rw [HSN.out]; omega) (by omega)).mono ?_
        rintro e w4 ⟨ov2, outs2, va2, S2, rfl, hO2, hOb2, hT2, hfp2, hTk, hk4⟩
        obtain ⟨hG2, hf2, hd2⟩ := hTk.good (hG.zn N)
        have hnow2 := hTk.now
        have hlen2 := hTk.len
        have hO4 := hO.kept hk4 (fun g hg => (hOb g hg).2.1)
        have hOb4 : ∀ g, u9.ownBlock = some g → w.heap.size ≤ g ∧ ¬ fpW pa ma va2 S2 g ∧ ¬ fpW pb mb vb Sb g := fun g hg => ⟨(hOb g hg).1, fun e => (hOb g hg).2.1 (hfp2 g e), (hOb g hg).2.2⟩
        have HTK := Lib.hid hTk
        have HF2 := Lib.hid hf2
        have HD2 := Lib.hid hd2
        have HLEN2 := Lib.hid hlen2
        have HNOW2 := Lib.hid hnow2
        clear hTk hf2 hd2 hlen2 hnow2 hcy
        obtain ⟨A2, c2, rfl⟩ := hO2.any
        simp only [List.length_map] at hO2 hOb2 ⊢
        have hq2 : outs2.length ≤ 40 := by have h1 := HLEN2.out; have h2 : ({ S with now := (N : Int) } : WS).due.length = S.due.length := rfl; omega
        go_wp2_with fail
        go_loopw [14] (fun qv wr => ∃ q n : Nat, qv = .int .i64 q ∧ q ≤ outs2.length ∧ wr = w4.drewN n) (fun qv _ => outs2.length - (intOf qv).toNat)
        case atStart => exact ⟨0, 0, rfl, Nat.zero_le _, rfl⟩
        case round =>
          obtain ⟨q, n, rfl, hq, rfl⟩ := hrel
          by_cases hlt3 : q < outs2.length
          case neg =>
            obtain rfl : q = outs2.length := by omega
            go_wp2_with (at_builtin; refine wpList_appendSl rfl (.tmp 170) (.tmp 171) 33 rfl Try.underlying33 hI0 hI1 hI2 hI3 rfl (by omega) u9 _ (outs.map Fd.cells) (outs2.map Fd.cells) rfl rfl (hO4.drewN n) (hO2.drewN n) (fun c hc => by obtain ⟨x, _, rfl⟩ := List.mem_map.1 hc; exact Fd.cells_one x) (by simp; omega) (by omega) ?_; intro v5 w5 hS5 hk5 hv5)
            have hT5 : Two w w5 pa ma va2 S2 pb mb vb Sb := (hT2.drewN n).other hk5 (fun g _ hg => ⟨(hOb4 g hg).2.1, (hOb4 g hg).2.2, (hOb4 g hg).1⟩)
            have hzw4 := hT2.kept.size
            have hv5' : ∀ g, v5.ownBlock = some g → w.heap.size ≤ g ∧ ¬ fpW pa ma va2 S2 g ∧ ¬ fpW pb mb vb Sb g := fun g hg => by
              rcases hv5 g hg with h | h
              · exact hOb4 g h
              · have h' : w4.heap.size ≤ g := h
                exact ⟨by omega, fun e => by have := hT2.a.fp_lt e; omega, fun e => by have := hT2.b.fp_lt e; omega⟩
            have hC5 : ∀ t : Int, (N : Int) ≤ t → ∀ o S2', Ticks t (zn S2) o S2' → Ticks t (zn S0) ((outs ++ outs2) ++ o) S2' := by
              intro t ht o S2' hh
              rw [List.append_assoc]
              have h1 : Ticks (N : Int) (zn S) outs2 (zn S2) := HTK.out.zn
              exact HC.out t (by omega) _ _ (h1.comp ht hh)
            have hl5 : (outs ++ outs2).length + S2.due.length ≤ k := by
              have h1 := HLEN2.out
              have h2 : ({ S with now := (N : Int) } : WS).due.length = S.due.length := rfl
              simp
              omega
            have hn5 : S2.now = (N : Int) := HNOW2.out
            have hm5 : List.map Fd.cells outs ++ List.map Fd.cells outs2 = (outs ++ outs2).map Fd.cells := by simp
            rw [hm5] at hS5
            go_roundw
            case rel =>
              exact ⟨i + 1, N, outs ++ outs2, va2, S2, rfl, by go_num, by omega, by omega, hn5, hT5, hG2, .inr HD2.out, hS5, hv5', hl5, hC5⟩
            case measure => simp [intOf]; omega
          have hmem : outs2[q] ∈ outs2 := List.getElem_mem ..
          obtain ⟨e1, e2, e3, e4, e5⟩ := HF2.out _ hmem
          obtain ⟨g2, hc2, hv2, _, _⟩ := hO2.some_ (by simp; omega)
          simp only [Value.slice.injEq] at hv2
          obtain ⟨rfl, -, rfl⟩ := hv2
          obtain ⟨x0, x1, x2, x3⟩ := Fd.cellsAt hO2 hlt3
          generalize outs2[q] = x at *
          obtain ⟨b0, off0, rfl, hbl0, hcell0⟩ := hA.1 (by omega)
          have hidx : x.id.toNat < k := by omega
          have hcx : w4.cell? ⟨b0, off0 + x.id.toNat, none⟩ = some (.int .u16 (f x.id.toNat)) := (hT2.kept.cell (p := ⟨b0, off0 + x.id.toNat, none⟩) hbl0 (fun h => h)).trans (hcell0 _ hidx)
          obtain ⟨hz0, hz1⟩ := hA.2 x.id.toNat
          have heq : (x.when != f x.id.toNat % 50) = false := by rw [bne_eq_false_iff_eq]; exact e3
          clear e3
          have hd1 : decide (x.id < 0) = false := by simp; omega
          have hd2 : decide ((k : Int) ≤ x.id) = false := by simp; omega
          have hd3 : decide ((N : Int) < x.when) = false := by simp; omega
          by_cases hw : x.when ≤ (now : Int)
          · have hnz : ¬ (0 : Int) < (now : Int) := by
              intro h0
              rcases HDUE.out with h | h
              · omega
              · have := e5 now h; omega
            have hd4 : decide (x.when ≤ (now : Int)) = true := by simpa using hw
            have hd5 : decide (0 < now) = false := by simp; omega
            have hd6 : (now : Int) = 0 := by omega
            clear hd6
            clear e5 hnz hw
            go_wp2_with fail
            refine wp_region_mix0 [.w, .w, .w, .w, .l, .w, .w, .w, .w, .w, .w, .l, .w, .w, .w, .w, .w, .w, .w, .w, .w, .l, .w, .w, .w, .w, .w, .w, .w, .w, .l, .w, .w, .w, .w, .w, .w, .w, .w, .w, .w, .w, .w, .l, .w, .w, .w, .w, .w, .l, .w, .l, .w, .w, .w, .w] (by kernel_rfl) (by kernel_rfl) ?_
            repeat (first
              | (refine mix_w1 ?_; go_big_quiet_step (fail); refine wpQuiet_nil ?_)
              | (refine mix_l1 rfl ?_; go_big_quiet_step (fail); refine wpQuiet_nil ?_))
            refine mix_nil ?_
            go_wp2_with fail
            go_roundw
            case rel => exact ⟨q + 1, n + 1, by go_num, by omega, by rw [← World.drewN_drewN]⟩
            case measure => simp [intOf]; omega
          · have hd4 : decide (x.when ≤ (now : Int)) = false := by simpa using hw
            clear e5 hw
            go_wp2_with fail
            refine wp_region_mix0 [.w, .w, .w, .w, .l, .w, .w, .w, .w, .w, .w, .l, .w, .w, .w, .w, .w, .w, .w, .w, .w, .l, .w, .w, .w, .w, .w, .w, .w, .w, .l, .w, .w, .w, .w, .w, .w, .w, .w, .w, .w, .w, .w, .l, .w, .w, .w, .w, .w, .l, .w, .l, .w, .w, .w, .w] (by kernel_rfl) (by kernel_rfl) ?_
            repeat (first
              | (refine mix_w1 ?_; go_big_quiet_step (fail); refine wpQuiet_nil ?_)
              | (refine mix_l1 rfl ?_; go_big_quiet_step (fail); refine wpQuiet_nil ?_))
            refine mix_nil ?_
            go_wp2_with fail
            go_roundw
            case rel => exact ⟨q + 1, n + 1, by go_num, by omega, by rw [← World.drewN_drewN]⟩
            case measure => simp [intOf]; omega
    obtain ⟨b, off, rfl, hbl, hcell⟩ := hA.1 (by omega)
    have hck : wr.cell? ⟨b, off + k, none⟩ = some (.int .u16 (f k)) := (hT.kept.cell (p := ⟨b, off + k, none⟩) hbl (fun h => h)).trans (hcell k hlt)
    obtain ⟨hf0, hf1⟩ := hA.2 k
    go_wp2_with fail
    refine (two_init hT k (addAll_none f ga k)).mono ?_
    rintro e w4 ⟨rfl, g4, hT4⟩
    go_wp2_with fail
    refine (two_init hT4.symm k (addAll_none f gb k)).mono ?_
    rintro e w5 ⟨rfl, g5, hT5⟩
    go_wp2_with fail
    refine (two_cb k 1 k g4 hT5.symm (addAll_none f ga k)).mono ?_
    rintro e w6 ⟨rfl, hT6⟩
    go_wp2_with fail
    refine (two_cb k 1 k g5 hT6.symm (addAll_none f gb k)).mono ?_
    rintro e w7 ⟨rfl, hT7⟩
    have hc7 : w7.cell? ⟨b, off + k, none⟩ = some (.int .u16 (f k)) := (hT7.kept.cell (p := ⟨b, off + k, none⟩) hbl (fun h => h)).trans (hcell k hlt)
    go_wp2_with fail
    refine (two_start k 1 k (f k % 50) g4 hT7.symm (addAll_none f ga k) (by omega) (by rw [(addAll_good f ga k).2.1]; omega) (by rw [(addAll_good f ga k).2.2]; omega)).mono ?_
    rintro e w8 ⟨rfl, va8, hT8⟩
    have hc8 : w8.cell? ⟨b, off + k, none⟩ = some (.int .u16 (f k)) := (hT8.kept.cell (p := ⟨b, off + k, none⟩) hbl (fun h => h)).trans (hcell k hlt)
    go_wp2_with fail
    refine (two_start k 1 k (f k % 50) g5 hT8.symm (addAll_none f gb k) (by omega) (by rw [(addAll_good f gb k).2.1]; omega) (by rw [(addAll_good f gb k).2.2]; omega)).mono ?_
    rintro e w9 ⟨rfl, vb9, hT9⟩
    go_wp2_with fail
    have ea : addT (addAll f ga k) g4 k 1 k (f k % 50) = addAll f (fun j => if j = k then g4 else ga j) (k + 1) := by
      show _ = addT (addAll f (fun j => if j = k then g4 else ga j) k) (if k = k then g4 else ga k) k 1 k (f k % 50)
      rw [if_pos rfl, addAll_cong f (fun j => if j = k then g4 else ga j) ga k (fun j hj => if_neg (by omega))]
    have eb : addT (addAll f gb k) g5 k 1 k (f k % 50) = addAll f (fun j => if j = k then g5 else gb j) (k + 1) := by
      show _ = addT (addAll f (fun j => if j = k then g5 else gb j) k) (if k = k then g5 else gb k) k 1 k (f k % 50)
      rw [if_pos rfl, addAll_cong f (fun j => if j = k then g5 else gb j) gb k (fun j hj => if_neg (by omega))]
    rw [ea, eb] at hT9
    go_roundw
    case rel => exact ⟨k + 1, _, _, _, _, by go_num, by omega, hT9.symm⟩
    case measure => simp [intOf]; omega

end Go.Proofs.Ytaehmaocibimeaa
