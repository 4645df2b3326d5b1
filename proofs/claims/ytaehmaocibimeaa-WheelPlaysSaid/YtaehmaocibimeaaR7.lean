import Derived.Test.YtaehmaocibimeaaR6
set_option linter.unusedSimpArgs false
set_option linter.unusedVariables false
namespace Go.Proofs.Ytaehmaocibimeaa
open Go.RowKit

theorem mix_done {P : Program} {ops : Array Oper} {C : World → Prop} {K : Act → World → Prop} {a : Act} {w : World} (h : K a w) : Mix P ops C K [] [] a w := ⟨h⟩

theorem shift_one (out : List RT) : ∀ c ∈ out.map RT.cells ++ [RT.cells ⟨0, 0, 0, false, false, 0, 0⟩], ∀ y ∈ c, y.oneCell' = true := by
  intro c hc
  rcases List.mem_append.1 hc with hc | hc
  · obtain ⟨x, _, rfl⟩ := List.mem_map.1 hc
    exact RT.cells_one x
  · rw [List.mem_singleton.1 hc]
    exact RT.cells_one _

section
variable {P : Program} {w : World} {ops : Array Oper} {rest : List Oper} {o : Oper} {a : Act} {Q : Exit → Act → World → Prop}
theorem wpList_shift2 (hgd : o.guard = none) (d s : Operand) (t : TypeId) (ho : o.op = .call { callee := .builtin .copy, args := #[d, s], argTypes := #[t, t] })
    {E sz : Nat} {i0 : TypeInfo} (ht : P.underlying t = some (.slice E)) (hi : P.info? E = some i0) (hsz : i0.size = sz) (hpos : 0 < sz)
    (g n cap k : Nat) (css : List (List Value)) (ad : Addr) (m1 m2 c1 c2 : Nat) (hd : a.eval d = .slice (some ad) m1 c1) (e1 : m1 = n - (k + 1)) (had : k + 1 < n → ad = ⟨g, (k + 1) * sz, none⟩) (hs : a.eval s = .slice (some ⟨g, k * sz, none⟩) m2 c2) (e2 : m2 = n - k)
    (h : Sl w E sz (.slice (some ⟨g, 0, none⟩) n cap) css) (hone : ∀ c ∈ css, ∀ y ∈ c, y.oneCell' = true) (hk : k < n)
    (hK : ∀ w', Sl w' E sz (.slice (some ⟨g, 0, none⟩) n cap) (css.take (k + 1) ++ (css.drop k).take (n - (k + 1))) → Kept (fun x => x = g) w w' → wpList P ops Q rest (a.put o.dst (.int .i64 ((n - (k + 1) : Nat) : Int))) w') :
    wpList P ops Q (o :: rest) a w := by
  subst e1
  subst e2
  exact wpList_shift hgd d s t ho ht hi hsz hpos g n cap k css ad c1 c2 hd had hs h hone hk hK
end

set_option maxHeartbeats 2000000 in
set_option maxRecDepth 100000 in
theorem dueR_any (p : Nat) (v : Value) (R : RS) (to : Int) (w : World) (h : IsR w p v R) :
    Calls Try.prog 34 #[.pointer (some ⟨p, 0, none⟩), .int .u64 to] w fun e w' => ∃ ov, e = .returned ov ∧ Sl w' 82 7 ov ((dueL to R.l []).map RT.cells) ∧ (∀ g, ov.ownBlock = some g → w.heap.size ≤ g) ∧ Kept (fun _ => False) w w' := by
  obtain ⟨i0, hI0, hI1, hI2, hI3⟩ := info_parts info82
  obtain ⟨A, c, rfl⟩ := h.own.any
  have hsm := h.small
  have hbl := h.blk.lt
  simp only [List.length_map] at h ⊢
  go_enter Try.func34, Try.ntmps34
  go_wp2_with fail
  go_loopw [5, 6] (fun ov iv wr => ∃ (i : Nat) (out : List RT), iv = .int .i64 i ∧ i ≤ R.l.length ∧ out = dueL to (R.l.take i) [] ∧ out.length ≤ i ∧ Sl wr 82 7 ov (out.map RT.cells) ∧ (∀ g, ov.ownBlock = some g → w.heap.size ≤ g) ∧ Kept (fun _ => False) w wr) (fun _ iv _ => R.l.length - (intOf iv).toNat)
  case atStart => exact ⟨0, [], rfl, Nat.zero_le _, rfl, Nat.zero_le _, Sl.nil _ _ _, by simp [Value.ownBlock], Kept.refl _ w⟩
  case round =>
    obtain ⟨i, out, rfl, hi, hout, hol, hO, hOb, hK⟩ := hrel
    have hR := h.kept hK (fun _ _ h => h)
    have hb := hR.blk.cell
    have HOUT := Lib.hid hout
    clear hout
    by_cases hlt : i < R.l.length
    case neg =>
      obtain rfl : i = R.l.length := by omega
      go_wp2_with fail
      go_ret
      have := HOUT.out
      rw [List.take_length] at this
      exact ⟨_, rfl, by rw [← this]; exact hO, hOb, hK⟩
    obtain ⟨g, cap, hv, hcap, hg⟩ := hR.own.some_ (by simp; omega)
    simp only [Value.slice.injEq] at hv
    obtain ⟨rfl, -, rfl⟩ := hv
    obtain ⟨x0, x1, x2, x3, x4, x5, x6⟩ := RT.cellsAt hR.own hlt
    have hsucc : dueL to (R.l.take (i + 1)) [] = (if (R.l[i]).armed = true ∧ (R.l[i]).when ≤ to then insL out R.l[i] else out) := by
      rw [List.take_succ_eq_append_getElem hlt, dueL_app, ← HOUT.out]
    generalize R.l[i] = t at *
    have HS := Lib.hid hsucc
    clear hsucc
    by_cases harm : t.armed = true ∧ t.when ≤ to
    case neg =>
      rw [if_neg harm] at HS
      have hka := Kept.alloc hK (.cells #[.int .i64 t.id, .int .i64 t.prog, .int .i64 t.at_, .bool t.set, .bool t.armed, .int .u64 t.when, .int .i64 t.order] 82)
      have hOa := hO.alloc (.cells #[.int .i64 t.id, .int .i64 t.prog, .int .i64 t.at_, .bool t.set, .bool t.armed, .int .u64 t.when, .int .i64 t.order] 82)
      cases hta : t.armed
      · rw [hta] at x4 hka hOa
        go_wp2_with fail
        go_roundw
        case rel => exact ⟨i + 1, out, by go_num, by omega, HS.out.symm, by omega, hOa, hOb, hka⟩
        case measure => simp [intOf]; omega
      · rw [hta] at x4 hka hOa
        have hw : decide (to < t.when) = true := by simp; simp [hta] at harm; omega
        go_wp2_with fail
        go_roundw
        case rel => exact ⟨i + 1, out, by go_num, by omega, HS.out.symm, by omega, hOa, hOb, hka⟩
        case measure => simp [intOf]; omega
    case pos =>
      rw [if_pos harm] at HS
      obtain ⟨hta, htw⟩ := harm
      have hw : decide (to < t.when) = false := by simp; omega
      rw [hta] at x4
      obtain ⟨A5, c5, rfl⟩ := hO.any
      simp only [List.length_map] at hO hOb ⊢
      go_wp2_with fail
      have hka := Kept.alloc hK (.cells #[.int .i64 t.id, .int .i64 t.prog, .int .i64 t.at_, .bool t.set, .bool true, .int .u64 t.when, .int .i64 t.order] 82)
      have hOa := hO.alloc (.cells #[.int .i64 t.id, .int .i64 t.prog, .int .i64 t.at_, .bool t.set, .bool true, .int .u64 t.when, .int .i64 t.order] 82)
      have hbx := Blk.new wr 82 #[.int .i64 t.id, .int .i64 t.prog, .int .i64 t.at_, .bool t.set, .bool true, .int .u64 t.when, .int .i64 t.order]
      have hblt := hO.lt
      have hKs := hK.size
      generalize hwb : wr.alloc (.cells #[.int .i64 t.id, .int .i64 t.prog, .int .i64 t.at_, .bool t.set, .bool true, .int .u64 t.when, .int .i64 t.order] 82) = wb at *
      generalize hn7 : wr.heap.size = n7 at *
      have hcx := hbx.cell
      clear hwb x0 x1 x2 x3 x4 x5 x6 hb
      go_loopw [8] (fun kv wq => ∃ k n : Nat, kv = .int .i64 k ∧ k ≤ out.length ∧ wq = wb.drewN n ∧ ∀ j (hj : j < out.length), j < k → (out[j]).lt t = true) (fun kv _ => out.length - (intOf kv).toNat)
      case atStart => exact ⟨0, 0, rfl, Nat.zero_le _, rfl, fun j _ hj => by omega⟩
      case round =>
        obtain ⟨k, n, rfl, hk, rfl, hall⟩ := hrel
        have HALL := Lib.hid hall
        clear hall
        have hend : ∀ (hn : ∀ hk : k < out.length, (out[k]).lt t = false), insL out t = out.take k ++ t :: out.drop k := fun hn => insL_at out t k hk HALL.out hn
        by_cases hlt2 : k < out.length
        case neg =>
          have hins := hend (fun h => absurd h hlt2)
          have HINS := Lib.hid hins
          clear hins hend
          have hd0 : decide ((k : Int) < (out.length : Int)) = false := by simp; omega
          go_wp2_with fail
          refine wp_region_mix0 [.w, .w, .w, .w, .w, .w, .w, .w, .w, .l, .w, .l, .w, .w, .w, .w, .w, .w, .l, .w, .l, .w, .w, .w, .w, .w, .w, .l, .w, .l, .w, .w, .w, .w] (by kernel_rfl) (by kernel_rfl) ?_
          repeat (first
            | (refine mix_w1 ?_; go_big_quiet_step (fail); refine wpQuiet_nil ?_)
            | (refine mix_l1 rfl ?_; go_big_quiet_step (fail); refine wpQuiet_nil ?_))
          refine mix_nil ?_
          go_wp2_with (at_builtin; refine wpList_push (w := wb.drewN (n + 1)) rfl (.tmp 70) (.tmp 72) 78 rfl Try.underlying78 hI0 hI1 hI2 hI3 rfl (by omega) (.slice A5 out.length c5) (out.map RT.cells) (RT.cells ⟨0, 0, 0, false, false, 0, 0⟩) rfl rfl (hOa.drewN (n + 1)) rfl (RT.cells_one _) (by simp; omega) (by omega) ?_; intro g6 cap6 w6 hS6 hk6 hg6; rw [show (out.map RT.cells).length = out.length from List.length_map _] at hS6; rw [show (out.map RT.cells).length = out.length from List.length_map _]; have hc6 : out.length + 1 ≤ cap6 := (by obtain ⟨_, _, _, h, _⟩ := hS6.sg.row; exact h); obtain ⟨ad1, hs1, had1⟩ := cutTail g6 (out.length + 1) cap6 (k + 1) (by omega); obtain ⟨ad2, hs2, had2⟩ := cutTail g6 (out.length + 1) cap6 k (by omega); obtain rfl := had2 (by omega); rw [show ((k + 1 : Nat) : Int) = ((k : Nat) : Int) + 1 by omega] at hs1; have hbx6 : Blk w6 n7 82 #[.int .i64 t.id, .int .i64 t.prog, .int .i64 t.at_, .bool t.set, .bool true, .int .u64 t.when, .int .i64 t.order] := hk6.blk (fun e => by have := hblt _ e; omega) (hbx.drewN _))
          refine wp_region_mix0 [.w, .w, .w, .w, .w, .w, .w, .t] (by kernel_rfl) (by kernel_rfl) ?_
          repeat (refine mix_w1 ?_; go_big_quiet_step (fail); refine wpQuiet_nil ?_)
          refine mix_t fun Q' hQ' => ?_
          have hng : n7 ≠ g6 := fun e => by
            have hlt7 : n7 < wb.heap.size := hbx.lt
            rcases hg6 with e2 | e2
            · have := hblt _ e2; omega
            · have : wb.heap.size ≤ g6 := e2
              omega
          refine wpList_shift2 (w := w6.drew) rfl (.tmp 77) (.tmp 80) 78 rfl Try.underlying78 hI0 hI2 (by omega) g6 (out.length + 1) cap6 k (out.map RT.cells ++ [RT.cells ⟨0, 0, 0, false, false, 0, 0⟩]) ad1 _ _ _ _ rfl (by omega) (fun h => had1 (Nat.lt_of_lt_of_le h hc6)) rfl (by omega) hS6.drew (shift_one out) (by omega) ?_
          intro w7 hS7 hk7
          have hbx7 : Blk w7 n7 82 #[.int .i64 t.id, .int .i64 t.prog, .int .i64 t.at_, .bool t.set, .bool true, .int .u64 t.when, .int .i64 t.order] := hk7.blk hng hbx6.drew
          have hcx7 := hbx7.cell
          refine hQ' _ _ ?_
          refine mix_done ?_
          go_wp2_with (refine wpList_storeElem [.int .i64 t.id, .int .i64 t.prog, .int .i64 t.at_, .bool t.set, .bool true, .int .u64 t.when, .int .i64 t.order] rfl (.tmp 85) (.tmp 84) 82 rfl hI0 hI2 g6 (out.length + 1) cap6 k _ rfl rfl rfl (by simp [Value.oneCell']) hS7 (by simp; omega) ?_; intro w8 hS8 hk8)
          have hcl : [Value.int .i64 t.id, .int .i64 t.prog, .int .i64 t.at_, .bool t.set, .bool true, .int .u64 t.when, .int .i64 t.order] = t.cells := by unfold RT.cells; rw [hta]
          have hsh := shift_set (out.map RT.cells) (RT.cells ⟨0, 0, 0, false, false, 0, 0⟩) t.cells k (by simpa using hk)
          rw [List.length_map] at hsh
          rw [hcl, hsh, ← List.map_take, ← List.map_drop, ← List.map_cons, ← List.map_append, ← HINS.out, ← HS.out] at hS8
          have hins2 : (insL out t).length = out.length + 1 := insL_len out t
          have hg6' : w.heap.size ≤ g6 := by
            rcases hg6 with e | e
            · exact hOb _ e
            · have h1 : wb.heap.size ≤ g6 := e
              have h2 : n7 < wb.heap.size := hbx.lt
              omega
          have k1 : Kept (fun x => w.heap.size ≤ x) w (wb.drewN (n + 1)) := (hka.mono (fun _ _ h => h.elim)).drewN (n + 1)
          have k2 : Kept (fun x => w.heap.size ≤ x) w w6.drew := (k1.trans hk6 (fun x _ e => hOb _ e)).drew
          have k3 : Kept (fun x => w.heap.size ≤ x) w w7 := k2.trans hk7 (fun x _ e => by omega)
          have k4 : Kept (fun x => w.heap.size ≤ x) w w8 := k3.trans hk8 (fun x _ e => by omega)
          have hkk : Kept (fun _ => False) w w8 := k4.mono (fun x hx e => by omega)
          have hob8 : ∀ g, (Value.slice (some ⟨g6, 0, none⟩) (out.length + 1) cap6).ownBlock = some g → w.heap.size ≤ g := fun g hg => by
            simp only [Value.ownBlock, Option.some.injEq] at hg
            omega
          clear k1 k2 k3 k4 hS7 hk7 hk8 hcl hsh hbx7 hcx7
          go_roundw
          case rel => exact ⟨i + 1, insL out t, by go_num, by omega, HS.out.symm, by omega, by rw [← HS.out]; exact hS8, hob8, hkk⟩
          case measure => simp [intOf]; omega
        case pos =>
          obtain ⟨g5, cap5, hv5, hcap5, hg5⟩ := hOa.some_ (by simp; omega)
          simp only [Value.slice.injEq] at hv5
          obtain ⟨rfl, -, rfl⟩ := hv5
          obtain ⟨_, _, _, _, _, y5, y6⟩ := RT.cellsAt (L := out) (by simpa using hOa.sg) hlt2
          have hd0 : decide ((k : Int) < (out.length : Int)) = true := by simp; omega
          have hgo : (out[k]).lt t = true → ∀ j (hj : j < out.length), j < k + 1 → (out[j]).lt t = true := fun hl j hj hjk => by
            rcases Nat.lt_succ_iff_lt_or_eq.1 hjk with h1 | h1
            · exact HALL.out j hj h1
            · subst h1; exact hl
          have hlt' : (out[k]).lt t = (decide ((out[k]).when < t.when) || ((out[k]).when == t.when && decide ((out[k]).order < t.order))) := rfl
          have hend' : (out[k]).lt t = false → insL out t = out.take k ++ t :: out.drop k := fun h => hend (fun _ => h)
          clear hend
          generalize out[k] = x at y5 y6 hgo hlt' hend'
          have HGO := Lib.hid hgo
          have HEND := Lib.hid hend'
          have HLT := Lib.hid hlt'
          clear hgo hend' hlt'
          cases hd1 : decide (x.when < t.when)
          case true =>
            have hl := HGO.out (by rw [HLT.out, hd1]; rfl)
            have HL := Lib.hid hl
            clear hl
            go_wp2_with fail
            refine wp_region_mix0 [.w, .w, .w, .w, .w, .w, .w, .w, .w, .l, .w, .l, .w, .w, .w, .w, .w, .w, .l, .w, .l, .w, .w, .w, .w, .w, .w, .l, .w, .l, .w, .w, .w, .w] (by kernel_rfl) (by kernel_rfl) ?_
            repeat (first
              | (refine mix_w1 ?_; go_big_quiet_step (fail); refine wpQuiet_nil ?_)
              | (refine mix_l1 rfl ?_; go_big_quiet_step (fail); refine wpQuiet_nil ?_))
            refine mix_nil ?_
            go_wp2_with fail
            go_roundw
            case rel => exact ⟨k + 1, n + 1, by go_num, by omega, by rw [← World.drewN_drewN], HL.out⟩
            case measure => simp [intOf]; omega
          case false =>
            cases hd2 : (x.when == t.when)
            case false =>
              have hins := HEND.out (by rw [HLT.out, hd1, hd2]; rfl)
              have HINS := Lib.hid hins
              clear hins
              go_wp2_with fail
              refine wp_region_mix0 [.w, .w, .w, .w, .w, .w, .w, .w, .w, .l, .w, .l, .w, .w, .w, .w, .w, .w, .l, .w, .l, .w, .w, .w, .w, .w, .w, .l, .w, .l, .w, .w, .w, .w] (by kernel_rfl) (by kernel_rfl) ?_
              repeat (first
                | (refine mix_w1 ?_; go_big_quiet_step (fail); refine wpQuiet_nil ?_)
                | (refine mix_l1 rfl ?_; go_big_quiet_step (fail); refine wpQuiet_nil ?_))
              refine mix_nil ?_
              go_wp2_with (at_builtin; refine wpList_push (w := wb.drewN (n + 1)) rfl (.tmp 70) (.tmp 72) 78 rfl Try.underlying78 hI0 hI1 hI2 hI3 rfl (by omega) (.slice (some ⟨g5, 0, none⟩) out.length c5) (out.map RT.cells) (RT.cells ⟨0, 0, 0, false, false, 0, 0⟩) rfl rfl (hOa.drewN (n + 1)) rfl (RT.cells_one _) (by simp; omega) (by omega) ?_; intro g6 cap6 w6 hS6 hk6 hg6; rw [show (out.map RT.cells).length = out.length from List.length_map _] at hS6; rw [show (out.map RT.cells).length = out.length from List.length_map _]; have hc6 : out.length + 1 ≤ cap6 := (by obtain ⟨_, _, _, h, _⟩ := hS6.sg.row; exact h); obtain ⟨ad1, hs1, had1⟩ := cutTail g6 (out.length + 1) cap6 (k + 1) (by omega); obtain ⟨ad2, hs2, had2⟩ := cutTail g6 (out.length + 1) cap6 k (by omega); obtain rfl := had2 (by omega); rw [show ((k + 1 : Nat) : Int) = ((k : Nat) : Int) + 1 by omega] at hs1; have hbx6 : Blk w6 n7 82 #[.int .i64 t.id, .int .i64 t.prog, .int .i64 t.at_, .bool t.set, .bool true, .int .u64 t.when, .int .i64 t.order] := hk6.blk (fun e => by have := hblt _ e; omega) (hbx.drewN _))
              refine wp_region_mix0 [.w, .w, .w, .w, .w, .w, .w, .t] (by kernel_rfl) (by kernel_rfl) ?_
              repeat (refine mix_w1 ?_; go_big_quiet_step (fail); refine wpQuiet_nil ?_)
              refine mix_t fun Q' hQ' => ?_
              have hng : n7 ≠ g6 := fun e => by
                have hlt7 : n7 < wb.heap.size := hbx.lt
                rcases hg6 with e2 | e2
                · have := hblt _ e2; omega
                · have : wb.heap.size ≤ g6 := e2
                  omega
              refine wpList_shift2 (w := w6.drew) rfl (.tmp 77) (.tmp 80) 78 rfl Try.underlying78 hI0 hI2 (by omega) g6 (out.length + 1) cap6 k (out.map RT.cells ++ [RT.cells ⟨0, 0, 0, false, false, 0, 0⟩]) ad1 _ _ _ _ rfl (by omega) (fun h => had1 (Nat.lt_of_lt_of_le h hc6)) rfl (by omega) hS6.drew (shift_one out) (by omega) ?_
              intro w7 hS7 hk7
              have hbx7 : Blk w7 n7 82 #[.int .i64 t.id, .int .i64 t.prog, .int .i64 t.at_, .bool t.set, .bool true, .int .u64 t.when, .int .i64 t.order] := hk7.blk hng hbx6.drew
              have hcx7 := hbx7.cell
              refine hQ' _ _ ?_
              refine mix_done ?_
              go_wp2_with (refine wpList_storeElem [.int .i64 t.id, .int .i64 t.prog, .int .i64 t.at_, .bool t.set, .bool true, .int .u64 t.when, .int .i64 t.order] rfl (.tmp 85) (.tmp 84) 82 rfl hI0 hI2 g6 (out.length + 1) cap6 k _ rfl rfl rfl (by simp [Value.oneCell']) hS7 (by simp; omega) ?_; intro w8 hS8 hk8)
              have hcl : [Value.int .i64 t.id, .int .i64 t.prog, .int .i64 t.at_, .bool t.set, .bool true, .int .u64 t.when, .int .i64 t.order] = t.cells := by unfold RT.cells; rw [hta]
              have hsh := shift_set (out.map RT.cells) (RT.cells ⟨0, 0, 0, false, false, 0, 0⟩) t.cells k (by simpa using hk)
              rw [List.length_map] at hsh
              rw [hcl, hsh, ← List.map_take, ← List.map_drop, ← List.map_cons, ← List.map_append, ← HINS.out, ← HS.out] at hS8
              have hins2 : (insL out t).length = out.length + 1 := insL_len out t
              have hg6' : w.heap.size ≤ g6 := by
                rcases hg6 with e | e
                · exact hOb _ e
                · have h1 : wb.heap.size ≤ g6 := e
                  have h2 : n7 < wb.heap.size := hbx.lt
                  omega
              have k1 : Kept (fun x => w.heap.size ≤ x) w (wb.drewN (n + 1)) := (hka.mono (fun _ _ h => h.elim)).drewN (n + 1)
              have k2 : Kept (fun x => w.heap.size ≤ x) w w6.drew := (k1.trans hk6 (fun x _ e => hOb _ e)).drew
              have k3 : Kept (fun x => w.heap.size ≤ x) w w7 := k2.trans hk7 (fun x _ e => by omega)
              have k4 : Kept (fun x => w.heap.size ≤ x) w w8 := k3.trans hk8 (fun x _ e => by omega)
              have hkk : Kept (fun _ => False) w w8 := k4.mono (fun x hx e => by omega)
              have hob8 : ∀ g, (Value.slice (some ⟨g6, 0, none⟩) (out.length + 1) cap6).ownBlock = some g → w.heap.size ≤ g := fun g hg => by
                simp only [Value.ownBlock, Option.some.injEq] at hg
                omega
              clear k1 k2 k3 k4 hS7 hk7 hk8 hcl hsh hbx7 hcx7
              go_roundw
              case rel => exact ⟨i + 1, insL out t, by go_num, by omega, HS.out.symm, by omega, by rw [← HS.out]; exact hS8, hob8, hkk⟩
              case measure => simp [intOf]; omega
            case true =>
              cases hd3 : decide (x.order < t.order)
              case true =>
                have hl := HGO.out (by rw [HLT.out, hd1, hd2, hd3]; rfl)
                have HL := Lib.hid hl
                clear hl
                go_wp2_with fail
                refine wp_region_mix0 [.w, .w, .w, .w, .w, .w, .w, .w, .w, .l, .w, .l, .w, .w, .w, .w, .w, .w, .l, .w, .l, .w, .w, .w, .w, .w, .w, .l, .w, .l, .w, .w, .w, .w] (by kernel_rfl) (by kernel_rfl) ?_
                repeat (first
                  | (refine mix_w1 ?_; go_big_quiet_step (fail); refine wpQuiet_nil ?_)
                  | (refine mix_l1 rfl ?_; go_big_quiet_step (fail); refine wpQuiet_nil ?_))
                refine mix_nil ?_
                go_wp2_with fail
                go_roundw
                case rel => exact ⟨k + 1, n + 1, by go_num, by omega, by rw [← World.drewN_drewN], HL.out⟩
                case measure => simp [intOf]; omega
              case false =>
                have hins := HEND.out (by rw [HLT.out, hd1, hd2, hd3]; rfl)
                have HINS := Lib.hid hins
                clear hins
                go_wp2_with fail
                refine wp_region_mix0 [.w, .w, .w, .w, .w, .w, .w, .w, .w, .l, .w, .l, .w, .w, .w, .w, .w, .w, .l, .w, .l, .w, .w, .w, .w, .w, .w, .l, .w, .l, .w, .w, .w, .w] (by kernel_rfl) (by kernel_rfl) ?_
                repeat (first
                  | (refine mix_w1 ?_; go_big_quiet_step (fail); refine wpQuiet_nil ?_)
                  | (refine mix_l1 rfl ?_; go_big_quiet_step (fail); refine wpQuiet_nil ?_))
                refine mix_nil ?_
                go_wp2_with (at_builtin; refine wpList_push (w := wb.drewN (n + 1)) rfl (.tmp 70) (.tmp 72) 78 rfl Try.underlying78 hI0 hI1 hI2 hI3 rfl (by omega) (.slice (some ⟨g5, 0, none⟩) out.length c5) (out.map RT.cells) (RT.cells ⟨0, 0, 0, false, false, 0, 0⟩) rfl rfl (hOa.drewN (n + 1)) rfl (RT.cells_one _) (by simp; omega) (by omega) ?_; intro g6 cap6 w6 hS6 hk6 hg6; rw [show (out.map RT.cells).length = out.length from List.length_map _] at hS6; rw [show (out.map RT.cells).length = out.length from List.length_map _]; have hc6 : out.length + 1 ≤ cap6 := (by obtain ⟨_, _, _, h, _⟩ := hS6.sg.row; exact h); obtain ⟨ad1, hs1, had1⟩ := cutTail g6 (out.length + 1) cap6 (k + 1) (by omega); obtain ⟨ad2, hs2, had2⟩ := cutTail g6 (out.length + 1) cap6 k (by omega); obtain rfl := had2 (by omega); rw [show ((k + 1 : Nat) : Int) = ((k : Nat) : Int) + 1 by omega] at hs1; have hbx6 : Blk w6 n7 82 #[.int .i64 t.id, .int .i64 t.prog, .int .i64 t.at_, .bool t.set, .bool true, .int .u64 t.when, .int .i64 t.order] := hk6.blk (fun e => by have := hblt _ e; omega) (hbx.drewN _))
                refine wp_region_mix0 [.w, .w, .w, .w, .w, .w, .w, .t] (by kernel_rfl) (by kernel_rfl) ?_
                repeat (refine mix_w1 ?_; go_big_quiet_step (fail); refine wpQuiet_nil ?_)
                refine mix_t fun Q' hQ' => ?_
                have hng : n7 ≠ g6 := fun e => by
                  have hlt7 : n7 < wb.heap.size := hbx.lt
                  rcases hg6 with e2 | e2
                  · have := hblt _ e2; omega
                  · have : wb.heap.size ≤ g6 := e2
                    omega
                refine wpList_shift2 (w := w6.drew) rfl (.tmp 77) (.tmp 80) 78 rfl Try.underlying78 hI0 hI2 (by omega) g6 (out.length + 1) cap6 k (out.map RT.cells ++ [RT.cells ⟨0, 0, 0, false, false, 0, 0⟩]) ad1 _ _ _ _ rfl (by omega) (fun h => had1 (Nat.lt_of_lt_of_le h hc6)) rfl (by omega) hS6.drew (shift_one out) (by omega) ?_
                intro w7 hS7 hk7
                have hbx7 : Blk w7 n7 82 #[.int .i64 t.id, .int .i64 t.prog, .int .i64 t.at_, .bool t.set, .bool true, .int .u64 t.when, .int .i64 t.order] := hk7.blk hng hbx6.drew
                have hcx7 := hbx7.cell
                refine hQ' _ _ ?_
                refine mix_done ?_
                go_wp2_with (refine wpList_storeElem [.int .i64 t.id, .int .i64 t.prog, .int .i64 t.at_, .bool t.set, .bool true, .int .u64 t.when, .int .i64 t.order] rfl (.tmp 85) (.tmp 84) 82 rfl hI0 hI2 g6 (out.length + 1) cap6 k _ rfl rfl rfl (by simp [Value.oneCell']) hS7 (by simp; omega) ?_; intro w8 hS8 hk8)
                have hcl : [Value.int .i64 t.id, .int .i64 t.prog, .int .i64 t.at_, .bool t.set, .bool true, .int .u64 t.when, .int .i64 t.order] = t.cells := by unfold RT.cells; rw [hta]
                have hsh := shift_set (out.map RT.cells) (RT.cells ⟨0, 0, 0, false, false, 0, 0⟩) t.cells k (by simpa using hk)
                rw [List.length_map] at hsh
                rw [hcl, hsh, ← List.map_take, ← List.map_drop, ← List.map_cons, ← List.map_append, ← HINS.out, ← HS.out] at hS8
                have hins2 : (insL out t).length = out.length + 1 := insL_len out t
                have hg6' : w.heap.size ≤ g6 := by
                  rcases hg6 with e | e
                  · exact hOb _ e
                  · have h1 : wb.heap.size ≤ g6 := e
                    have h2 : n7 < wb.heap.size := hbx.lt
                    omega
                have k1 : Kept (fun x => w.heap.size ≤ x) w (wb.drewN (n + 1)) := (hka.mono (fun _ _ h => h.elim)).drewN (n + 1)
                have k2 : Kept (fun x => w.heap.size ≤ x) w w6.drew := (k1.trans hk6 (fun x _ e => hOb _ e)).drew
                have k3 : Kept (fun x => w.heap.size ≤ x) w w7 := k2.trans hk7 (fun x _ e => by omega)
                have k4 : Kept (fun x => w.heap.size ≤ x) w w8 := k3.trans hk8 (fun x _ e => by omega)
                have hkk : Kept (fun _ => False) w w8 := k4.mono (fun x hx e => by omega)
                have hob8 : ∀ g, (Value.slice (some ⟨g6, 0, none⟩) (out.length + 1) cap6).ownBlock = some g → w.heap.size ≤ g := fun g hg => by
                  simp only [Value.ownBlock, Option.some.injEq] at hg
                  omega
                clear k1 k2 k3 k4 hS7 hk7 hk8 hcl hsh hbx7 hcx7
                go_roundw
                case rel => exact ⟨i + 1, insL out t, by go_num, by omega, HS.out.symm, by omega, by rw [← HS.out]; exact hS8, hob8, hkk⟩
                case measure => simp [intOf]; omega

end Go.Proofs.Ytaehmaocibimeaa
