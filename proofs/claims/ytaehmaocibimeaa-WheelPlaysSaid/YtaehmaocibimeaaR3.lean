import Derived.Test.YtaehmaocibimeaaR2
set_option linter.unusedSimpArgs false
set_option linter.unusedVariables false
namespace Go.Proofs.Ytaehmaocibimeaa
open Go.RowKit

set_option maxHeartbeats 400000 in
theorem cbR_none (p : Nat) (v : Value) (R : RS) (id pr at_ : Int) (w : World) (h : IsR w p v R) (hp : posR R.l id = none) :
    Calls Try.prog 17 #[.pointer (some ⟨p, 0, none⟩), .int .i64 id, .int .i64 pr, .int .i64 at_] w fun e w' => e = .returned (.int .i64 120) ∧ w = w' := by
  go_enter Try.func17, Try.ntmps17
  go_wp2_with (go_at_call 33; refine (find_any p v R id w h).mono ?_; rintro e w1 ⟨rfl, rfl⟩; rw [hp]; simp only [posI'])
  go_ret
  exact ⟨rfl, rfl⟩

theorem setE_kept {w w' : World} {g : Nat} {p : Nat} {n c : Nat} (hk : Kept (fun k => k = g) w w') : Kept (fpR p (.slice (some ⟨g, 0, none⟩) n c)) w w' := hk.mono (fun k _ e => .inr (by simp [Value.ownBlock, e]))

set_option maxHeartbeats 1000000 in
theorem cbR_ok (p : Nat) (v : Value) (R : RS) (id pr at_ : Int) (w : World) (h : IsR w p v R) {i : Nat} (hp : posR R.l id = some i) {t : RT} (ht : R.l[i]? = some t) :
    Calls Try.prog 17 #[.pointer (some ⟨p, 0, none⟩), .int .i64 id, .int .i64 pr, .int .i64 at_] w fun e w' => e = .returned (.int .i64 0) ∧
      StpR w p v w' v { R with l := R.l.set i { t with prog := pr, at_ := at_, set := true } } := by
  have hi : i < R.l.length := (List.getElem?_eq_some_iff.1 ht).1
  have het : R.l[i] = t := (List.getElem?_eq_some_iff.1 ht).2
  obtain ⟨g, cap, rfl, hcap, hg⟩ := h.own.some_ (by simp; omega)
  have hgp : g ≠ p := fun e => h.ne (by simp [Value.ownBlock, e])
  have hpg : p ≠ g := fun e => hgp e.symm
  have hb := h.blk.cell
  obtain ⟨x0, x1, x2, x3, x4, x5, x6⟩ := RT.cellsAt h.own hi
  rw [het] at x0 x1 x2 x3 x4 x5 x6
  have hfr := h.own.frozen
  have h1 := h.setE hi (k := 1) (by omega) (u := .int .i64 pr) (t' := { t with prog := pr }) (by rw [het]; rfl)
  have h2 := h1.setE (i := i) (by simpa using hi) (k := 2) (by omega) (u := .int .i64 at_) (t' := { t with prog := pr, at_ := at_ }) (by simp [RT.cells])
  have h3 := h2.setE (i := i) (by simpa using hi) (k := 3) (by omega) (u := .bool true) (t' := { t with prog := pr, at_ := at_, set := true }) (by simp [RT.cells])
  simp only [List.set_set] at h3
  have hk : Kept (fun k => k = g) w (((w.setCell ⟨g, i * 7 + 1, none⟩ (.int .i64 pr)).setCell ⟨g, i * 7 + 2, none⟩ (.int .i64 at_)).setCell ⟨g, i * 7 + 3, none⟩ (.bool true)) :=
    Kept.setCell (F := fun k => k = g) (Kept.setCell (F := fun k => k = g) (Kept.setCell (F := fun k => k = g) (Kept.refl _ w) (fun _ => rfl) _) (fun _ => rfl) _) (fun _ => rfl) _
  have H3 := Lib.hid h3
  have HP := Lib.hid hp
  clear h1 h2 h3 ht het hp
  simp only [List.length_map] at hb hcap h ⊢
  have hile : i < R.l.length := hi
  have hsm := h.small
  have hk' := setE_kept (p := p) (n := R.l.length) (c := cap) hk
  have HK := Lib.hid hk'
  clear hk hk'
  go_enter Try.func17, Try.ntmps17
  go_wp2_with (go_at_call 33; refine (find_any p _ R id w h).mono ?_; rintro e w1 ⟨rfl, rfl⟩; rw [HP.out]; simp only [posI'])
  go_ret
  refine ⟨rfl, ?_, HK.out, fun k hk => .inl hk⟩
  have := H3.out
  simpa using this

set_option maxHeartbeats 400000 in
theorem cancelR_none (p : Nat) (v : Value) (R : RS) (id : Int) (w : World) (h : IsR w p v R) (hp : posR R.l id = none) :
    Calls Try.prog 19 #[.pointer (some ⟨p, 0, none⟩), .int .i64 id] w fun e w' => e = .returned (.tuple #[.bool false, .int .i64 120]) ∧ w = w' := by
  go_enter Try.func19, Try.ntmps19
  go_wp2_with (go_at_call 33; refine (find_any p v R id w h).mono ?_; rintro e w1 ⟨rfl, rfl⟩; rw [hp]; simp only [posI'])
  go_ret2
  exact ⟨rfl, rfl⟩

set_option maxHeartbeats 1000000 in
theorem cancelR_ok (p : Nat) (v : Value) (R : RS) (id : Int) (w : World) (h : IsR w p v R) {i : Nat} (hp : posR R.l id = some i) {t : RT} (ht : R.l[i]? = some t) :
    Calls Try.prog 19 #[.pointer (some ⟨p, 0, none⟩), .int .i64 id] w fun e w' => 
      e = .returned (.tuple #[.bool t.armed, .int .i64 0]) ∧ StpR w p v w' v { R with l := R.l.set i { t with armed := false } } := by
  have hi : i < R.l.length := (List.getElem?_eq_some_iff.1 ht).1
  have het : R.l[i] = t := (List.getElem?_eq_some_iff.1 ht).2
  obtain ⟨g, cap, rfl, hcap, hg⟩ := h.own.some_ (by simp; omega)
  have hgp : g ≠ p := fun e => h.ne (by simp [Value.ownBlock, e])
  have hpg : p ≠ g := fun e => hgp e.symm
  have hb := h.blk.cell
  obtain ⟨x0, x1, x2, x3, x4, x5, x6⟩ := RT.cellsAt h.own hi
  rw [het] at x0 x1 x2 x3 x4 x5 x6
  have hfr := h.own.frozen
  have h1 := h.setE hi (k := 4) (by omega) (u := .bool false) (t' := { t with armed := false }) (by rw [het]; rfl)
  have hk : Kept (fun k => k = g) w (w.setCell ⟨g, i * 7 + 4, none⟩ (.bool false)) := Kept.setCell (F := fun k => k = g) (Kept.refl _ w) (fun _ => rfl) _
  have H3 := Lib.hid h1
  have HP := Lib.hid hp
  clear h1 ht het hp
  simp only [List.length_map] at hb hcap h ⊢
  have hile : i < R.l.length := hi
  have hsm := h.small
  have hk' := setE_kept (p := p) (n := R.l.length) (c := cap) hk
  have HK := Lib.hid hk'
  clear hk hk'
  go_enter Try.func19, Try.ntmps19
  go_wp2_with (go_at_call 33; refine (find_any p _ R id w h).mono ?_; rintro e w1 ⟨rfl, rfl⟩; rw [HP.out]; simp only [posI'])
  go_ret2
  refine ⟨rfl, ?_, HK.out, fun k hk => .inl hk⟩
  have := H3.out
  simpa using this

set_option maxHeartbeats 400000 in
theorem startR_none (p : Nat) (v : Value) (R : RS) (id after : Int) (w : World) (h : IsR w p v R) (hp : posR R.l id = none) :
    Calls Try.prog 18 #[.pointer (some ⟨p, 0, none⟩), .int .i64 id, .int .u64 after] w fun e w' => e = .returned (.int .i64 120) ∧ w = w' := by
  go_enter Try.func18, Try.ntmps18
  go_wp2_with (go_at_call 33; refine (find_any p v R id w h).mono ?_; rintro e w1 ⟨rfl, rfl⟩; rw [hp]; simp only [posI'])
  go_ret
  exact ⟨rfl, rfl⟩

set_option maxHeartbeats 1000000 in
theorem startR_unset (p : Nat) (v : Value) (R : RS) (id after : Int) (w : World) (h : IsR w p v R) {i : Nat} (hp : posR R.l id = some i) {t : RT} (ht : R.l[i]? = some t) (hset : t.set = false) :
    Calls Try.prog 18 #[.pointer (some ⟨p, 0, none⟩), .int .i64 id, .int .u64 after] w fun e w' => e = .returned (.int .i64 120) ∧ w = w' := by
  have hi : i < R.l.length := (List.getElem?_eq_some_iff.1 ht).1
  have het : R.l[i] = t := (List.getElem?_eq_some_iff.1 ht).2
  obtain ⟨g, cap, rfl, hcap, hg⟩ := h.own.some_ (by simp; omega)
  have hb := h.blk.cell
  obtain ⟨x0, x1, x2, x3, x4, x5, x6⟩ := RT.cellsAt h.own hi
  rw [het] at x0 x1 x2 x3 x4 x5 x6
  rw [hset] at x3
  have HP := Lib.hid hp
  clear ht het hp
  simp only [List.length_map] at hb hcap h ⊢
  have hsm := h.small
  go_enter Try.func18, Try.ntmps18
  go_wp2_with (go_at_call 33; refine (find_any p _ R id w h).mono ?_; rintro e w1 ⟨rfl, rfl⟩; rw [HP.out]; simp only [posI'])
  go_ret
  exact ⟨rfl, rfl⟩

end Go.Proofs.Ytaehmaocibimeaa
