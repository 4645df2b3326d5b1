import Derived.Test.YtaehmaocibimeaaR8
set_option linter.unusedSimpArgs false
set_option linter.unusedVariables false
namespace Go.Proofs.Ytaehmaocibimeaa
open Go.RowKit

/-- the first timer of an id is armed no more -/
def offAt : List RT → Int → List RT
  | [], _ => []
  | t :: r, id => if t.id = id then { t with armed := false } :: r else t :: offAt r id
def offs (l : List RT) (xs : List RT) : List RT := xs.foldl (fun l x => offAt l x.id) l
theorem offAt_ids : ∀ (l : List RT) (id : Int), (offAt l id).map RT.id = l.map RT.id
  | [], _ => rfl
  | t :: r, id => by
    simp only [offAt]
    split
    · rfl
    · simp only [List.map_cons, offAt_ids r id]
theorem offs_ids : ∀ (xs l : List RT), (offs l xs).map RT.id = l.map RT.id
  | [], l => rfl
  | x :: r, l => by
    show (offs (offAt l x.id) r).map RT.id = _
    rw [offs_ids r, offAt_ids]
theorem posR_ids : ∀ {l l' : List RT} (id : Int), l.map RT.id = l'.map RT.id → posR l id = posR l' id
  | [], [], _, _ => rfl
  | [], _ :: _, _, h => by simp at h
  | _ :: _, [], _, h => by simp at h
  | t :: r, t' :: r', id, h => by
    simp only [List.map_cons, List.cons.injEq] at h
    simp only [posR, h.1, posR_ids id h.2]
theorem offAt_set : ∀ {l : List RT} {id : Int} {i : Nat} {t : RT}, posR l id = some i → l[i]? = some t → offAt l id = l.set i { t with armed := false }
  | [], _, _, _, h, _ => by cases h
  | x :: r, id, i, t, h, ht => by
    simp only [posR] at h
    simp only [offAt]
    split at h
    · rename_i e
      cases h
      rw [if_pos e]
      simp only [List.getElem?_cons_zero, Option.some.injEq] at ht
      subst ht
      rfl
    · rename_i e
      rw [if_neg e]
      cases hp : posR r id with
      | none => rw [hp] at h; cases h
      | some j =>
        rw [hp] at h
        simp only [Option.map_some, Option.some.injEq] at h
        subst h
        rw [List.getElem?_cons_succ] at ht
        rw [List.set_cons_succ, offAt_set hp ht]
theorem offs_snoc (l xs : List RT) (x : RT) : offs l (xs ++ [x]) = offAt (offs l xs) x.id := by unfold offs; rw [List.foldl_append]; rfl

def RT.fd (t : RT) : Fd := ⟨t.id, t.prog, t.at_, t.when⟩

theorem IsR.setNow {w : World} {p : Nat} {v : Value} {R : RS} (h : IsR w p v R) {to : Int} (h0 : 0 ≤ to) (h1 : to < 18446744073709551616) : IsR (w.setCell ⟨p, 0, none⟩ (.int .u64 to)) p v { R with now := to } :=
  ⟨h.blk.set_ 0 _, h.own.kept (Kept.setCell (F := fun k => k = p) (Kept.refl _ w) (fun _ => rfl) _) (fun g hg e => h.ne (by rw [hg, e])), h.ne, h0, h1, h.c0, h.c1, h.small⟩

set_option maxHeartbeats 400000 in
theorem tickR_bad (p : Nat) (v : Value) (R : RS) (to : Int) (w : World) (h : IsR w p v R) (ht : to < R.now) :
    Calls Try.prog 23 #[.pointer (some ⟨p, 0, none⟩), .int .u64 to] w fun e w' => e = .returned (.tuple #[.slice none 0 0, .int .i64 122]) ∧ w = w' := by
  have hb := h.blk.cell
  go_enter Try.func23, Try.ntmps23
  go_wp2
  go_ret2
  exact ⟨rfl, rfl⟩

set_option maxHeartbeats 2000000 in
set_option maxRecDepth 100000 in
theorem tickR_ok (p : Nat) (v : Value) (R : RS) (to : Int) (w : World) (h : IsR w p v R) (ht : R.now ≤ to) (ht2 : to < 18446744073709551616) (hin : ∀ x ∈ dueL to R.l [], posR R.l x.id ≠ none) :
    Calls Try.prog 23 #[.pointer (some ⟨p, 0, none⟩), .int .u64 to] w fun e w' => ∃ ov, e = .returned (.tuple #[ov, .int .i64 0]) ∧ Sl w' 37 4 ov (((dueL to R.l []).map RT.fd).map Fd.cells) ∧ (∀ g, ov.ownBlock = some g → w.heap.size ≤ g) ∧
      StpR w p v w' v { R with now := to, l := offs R.l (dueL to R.l []) } := by
  obtain ⟨i0, hI0, hI1, hI2, hI3⟩ := info_parts info37
  have hn0 := h.now0
  have hb := h.blk.cell
  have hfp := h.blk.frozen
  have hsm := h.small
  have hlen := dueL_len to R.l []
  have hfpl : ∀ k, fpR p v k → k < w.heap.size := fun k hk => h.fp_lt hk
  have h1 := h.setNow (to := to) (by omega) ht2
  have hk0 : Kept (fpR p v) w (w.setCell ⟨p, 0, none⟩ (.int .u64 to)) := Kept.setCell (Kept.refl _ w) (fun _ => .inl rfl) _
  have hsz0 : (w.setCell ⟨p, 0, none⟩ (.int .u64 to)).heap.size = w.heap.size := by simp [World.setCell]
  have hdu := dueR_any p v _ to _ h1
  have HDU := Lib.hid hdu
  have HIN := Lib.hid hin
  clear hdu hin
  go_enter Try.func23, Try.ntmps23
  go_wp2_with fail
  generalize w.setCell ⟨p, 0, none⟩ (.int .u64 to) = wa at *
  have HSZ0 := Lib.hid hsz0
  clear hsz0 hb hfp
  refine HDU.out.mono ?_
  rintro e w1 ⟨ov, rfl, hD, hDb, hk1⟩
  clear HDU
  generalize hL : dueL to R.l [] = L at *
  have HL := Lib.hid hL
  clear hL
  have hR1 : IsR w1 p v { R with now := to } := h1.kept hk1 (fun _ _ h => h)
  have hK1 : Kept (fpR p v) w w1 := hk0.trans hk1 (fun _ _ h => h.elim)
  clear h1 hk0
  have hDb' : ∀ g, ov.ownBlock = some g → w.heap.size ≤ g := fun g hg => by have := hDb g hg; have := HSZ0.out; omega
  have hDlt := hD.lt
  obtain ⟨A, c, rfl⟩ := hD.any
  simp only [List.length_map, List.length_nil, Nat.zero_add] at hD hDb' hlen hDlt ⊢
  have hlen1 : L.length ≤ 1000000 := by omega
  clear hlen hDb
  have hs1 := hK1.size
  go_wp2_with fail
  go_loopw [7, 8] (fun fv iv wr => ∃ i : Nat, iv = .int .i64 i ∧ i ≤ L.length ∧ Sl wr 37 4 fv (((L.take i).map RT.fd).map Fd.cells) ∧ (∀ g, fv.ownBlock = some g → w1.heap.size ≤ g) ∧ IsR wr p v { R with now := to, l := offs R.l (L.take i) } ∧ Kept (fun k => fpR p v k ∨ w1.heap.size ≤ k) w1 wr) (fun _ iv _ => L.length - (intOf iv).toNat)
  case atStart => exact ⟨0, rfl, Nat.zero_le _, Sl.nil _ _ _, by simp [Value.ownBlock], hR1, Kept.refl _ w1⟩
  case round =>
    obtain ⟨i, rfl, hi, hO, hOb, hR, hK⟩ := hrel
    have hKw : Kept (fpR p v) w wr := hK1.trans hK (fun x hx e => by
      rcases e with e | e
      · exact e
      · have : w1.heap.size ≤ x := e
        omega)
    have hD' : Sl wr 82 7 (Value.slice A L.length c) (L.map RT.cells) := hD.kept hK (fun g hg e => by
      have h1 := hDlt g hg
      have h2 := hDb' g hg
      rcases e with e | e
      · have := hfpl g e; omega
      · have : w1.heap.size ≤ g := e
        omega)
    have hsz := hK.size
    by_cases hlt : i < L.length
    case neg =>
      obtain rfl : i = L.length := by omega
      rw [List.take_length] at hO hR
      go_wp2_with fail
      go_ret2
      rw [HL.out]
      exact ⟨_, rfl, hO, fun g hg => Nat.le_trans hs1 (hOb g hg), hR, hKw, fun k hk => .inl hk⟩
    case pos =>
      obtain ⟨g, cap, hv, _, hg⟩ := hD'.some_ (by simp; omega)
      simp only [Value.slice.injEq] at hv
      obtain ⟨rfl, -, rfl⟩ := hv
      obtain ⟨x0, x1, x2, _, _, x5, _⟩ := RT.cellsAt (L := L) (by simpa using hD'.sg) hlt
      have htk : L.take (i + 1) = L.take i ++ [L[i]] := List.take_succ_eq_append_getElem hlt
      have hmem : L[i] ∈ L := List.getElem_mem hlt
      have hln : (((L.take i).map RT.fd).map Fd.cells).length = i := by simp; omega
      have hids : (offs R.l (L.take i)).map RT.id = R.l.map RT.id := offs_ids _ _
      generalize hx : L[i] = x at *
      have hpos : ∃ j, posR (offs R.l (L.take i)) x.id = some j := by
        rw [posR_ids x.id hids]
        cases hp : posR R.l x.id with
        | none => exact absurd hp (HIN.out x (by rw [HL.out] at *; exact hmem))
        | some j => exact ⟨j, rfl⟩
      obtain ⟨j, hp⟩ := hpos
      generalize hcur : offs R.l (L.take i) = cur at *
      have HTK := Lib.hid htk
      have HLN := Lib.hid hln
      have HP := Lib.hid hp
      have HCUR := Lib.hid hcur
      have HX := Lib.hid hx
      clear htk hln hids hmem hp hcur hx
      go_wp2_with fail
      refine wp_region_mix0 [.w, .w, .w, .w, .w, .l, .w, .w, .w, .w, .l, .w, .w, .w, .w, .l, .w, .w, .w, .w, .l, .w, .t, .t, .t] (by kernel_rfl) (by kernel_rfl) ?_
      repeat (first
        | (refine mix_w1 ?_; go_big_quiet_step (fail); refine wpQuiet_nil ?_)
        | (refine mix_l1 rfl ?_; go_big_quiet_step (fail); refine wpQuiet_nil ?_))
      refine mix_t fun Q' hQ' => ?_
      go_wp2
      refine mix_t fun Q' hQ' => ?_
      go_wp2_with (at_builtin; refine wpList_push (w := wr.drew) rfl (.tmp 28) (.tmp 50) 33 rfl Try.underlying33 hI0 hI1 hI2 hI3 rfl (by omega) u7 (((L.take i).map RT.fd).map Fd.cells) (Fd.cells ⟨x.id, x.prog, x.at_, x.when⟩) rfl rfl hO.drew rfl (Fd.cells_one _) (by rw [HLN.out]; omega) (by omega) ?_; intro g5 cap5 w5 hS5 hk5 hg5; rw [HLN.out] at hS5; rw [HLN.out])
      refine mix_t fun Q' hQ' => ?_
      go_wp2
      refine mix_done ?_
      have hg5' : w1.heap.size ≤ g5 := by
        rcases hg5 with e | e
        · exact hOb _ e
        · have : wr.heap.size ≤ g5 := e
          omega
      have hk5' : Kept (fun k => u7.ownBlock = some k) wr w5 := Kept.trans (Kept.drew (Kept.refl _ wr)) hk5 (fun _ _ h => h)
      have hR5 : IsR w5 p v { R with now := to, l := cur } := hR.kept hk5' (fun k hk e => by
        have h1 := hOb k e
        have h2 := hfpl k hk
        omega)
      have hD5 : Sl w5 82 7 (Value.slice (some ⟨g, 0, none⟩) L.length c) (L.map RT.cells) := hD'.kept hk5' (fun g' hg' e => by
        have h1 := hOb _ e
        have h2 := hDlt _ hg'
        omega)
      have hK5 : Kept (fun k => fpR p v k ∨ w1.heap.size ≤ k) w1 w5 := hK.trans hk5' (fun k hk e => .inr (hOb k e))
      obtain ⟨y0, _, _, _, _, _, _⟩ := RT.cellsAt (L := L) (by simpa using hD5.sg) hlt
      rw [HX.out] at y0
      obtain ⟨hj, -⟩ := posR_at HP.out
      obtain ⟨g2, cap2, hv2, hcap2, hg2⟩ := hR5.own.some_ (by simp; omega)
      simp only [List.length_map] at hcap2
      subst hv2
      have hb5 := hR5.blk.cell
      simp only [List.length_map] at hb5
      have hf5 := hR5.own.frozen
      have hsm5 : cur.length ≤ 1000000 := hR5.small
      obtain ⟨_, _, _, _, z4, _, _⟩ := RT.cellsAt (L := cur) hR5.own hj
      go_wp2_with fail
      refine wp_region_mix0 [.w, .w, .w, .l, .w, .w, .w, .w, .w, .l, .k, .w, .w, .t] (by kernel_rfl) (by kernel_rfl) ?_
      repeat (first
        | (refine mix_w1 ?_; go_big_quiet_step (fail); refine wpQuiet_nil ?_)
        | (refine mix_l1 rfl ?_; go_big_quiet_step (fail); refine wpQuiet_nil ?_))
      refine mix_k rfl fun Q' hQ' => ?_
      go_wp2_with (go_at_call 33; refine (find_any p _ _ x.id _ hR5.drew).mono ?_; rintro e w6 ⟨rfl, rfl⟩; rw [HP.out]; simp only [posI'])
      refine hQ' _ _ rfl ?_
      clear hQ' Q'
      repeat (first
        | (refine mix_w1 ?_; go_big_quiet_step (fail); refine wpQuiet_nil ?_))
      refine mix_t fun Q' hQ' => ?_
      go_wp2
      refine mix_done ?_
      have hset : offs R.l (L.take (i + 1)) = cur.set j { cur[j] with armed := false } := by
        rw [HTK.out, offs_snoc, HCUR.out]
        exact offAt_set HP.out (by simp [hj])
      have hR6 : IsR (w5.setCell ⟨g2, j * 7 + 4, none⟩ (.bool false)).drew p (.slice (some ⟨g2, 0, none⟩) (cur.map RT.cells).length cap2) { R with now := to, l := offs R.l (L.take (i + 1)) } := by
        rw [hset]
        exact (hR5.setE (i := j) hj (k := 4) (by omega) (u := .bool false) (t' := { cur[j] with armed := false }) rfl).drew
      have hgfp : fpR p (.slice (some ⟨g2, 0, none⟩) (cur.map RT.cells).length cap2) g2 := .inr (by simp [Value.ownBlock])
      have hk6 : Kept (fun k => k = g2) w5 (w5.setCell ⟨g2, j * 7 + 4, none⟩ (.bool false)).drew := (Kept.setCell (F := fun k => k = g2) (Kept.refl _ w5) (fun _ => rfl) _).drew
      have hS6 := hS5.kept hk6 (fun g' hg' e => by
        simp only [Value.ownBlock, Option.some.injEq] at hg'
        have := hfpl g2 hgfp
        omega)
      have hK6 := hK5.trans hk6 (fun k hk e => .inl (by subst e; exact hgfp))
      have hm : (L.take (i + 1)).map RT.fd = (L.take i).map RT.fd ++ [⟨x.id, x.prog, x.at_, x.when⟩] := by rw [HTK.out, List.map_append]; rfl
      have hob5 : ∀ g', (Value.slice (some ⟨g5, 0, none⟩) (i + 1) cap5).ownBlock = some g' → w1.heap.size ≤ g' := fun g' hg' => by
        simp only [Value.ownBlock, Option.some.injEq] at hg'
        omega
      have hln2 : (cur.map RT.cells).length = cur.length := List.length_map _
      have HM := Lib.hid hm
      clear hm hset hk6 hb5 hf5 z4
      go_wp2_with fail
      go_roundw
      case rel => exact ⟨i + 1, by go_num, by omega, by rw [HM.out, List.map_append]; exact hS6, hob5, hR6, hK6⟩
      case measure => simp [intOf]; omega

end Go.Proofs.Ytaehmaocibimeaa
