import Derived.Test.YtaehmaocibimeaaSl
import Derived.Test.YtaehmaocibimeaaMix
set_option linter.unusedSimpArgs false
set_option linter.unusedVariables false
namespace Go.Proofs.Ytaehmaocibimeaa
open Go.RowKit

structure Tm where
  id : Int
  prog : Int
  at_ : Int
  has : Bool
  when : Int
  start : Int

def Tm.cells (t : Tm) : List Value := [.int .i64 t.id, .int .i64 t.prog, .int .i64 t.at_, .bool t.has, .int .u64 t.when, .int .i64 t.start]
theorem Tm.cells_len (t : Tm) : t.cells.length = 6 := rfl
theorem Tm.cells_one (t : Tm) : ∀ u ∈ t.cells, u.oneCell' = true := by simp [Tm.cells, Value.oneCell']

abbrev Own (w : World) (v : Value) (L : List Tm) : Prop := Sl w 70 6 v (L.map Tm.cells)

theorem info70 : (Try.prog.info? 70).map (fun i => (i.zero, i.size, i.bytes)) = some (some (.agg #[.int .i64 0, .int .i64 0, .int .i64 0, .bool false, .int .u64 0, .int .i64 0]), 6, 48) := by kernel_rfl

theorem len_any (A : Option Addr) (n c : Nat) (w : World) : Calls Try.prog 29 #[.slice A n c] w fun e w' => e = .returned (.int .i64 n) ∧ w = w' := by
  go_enter Try.func29, Try.ntmps29
  go_wp2
  go_ret
  exact ⟨rfl, rfl⟩

theorem Own.cells {w : World} {g n c : Nat} {L : List Tm} (h : Own w (.slice (some ⟨g, 0, none⟩) n c) L) {i : Nat} (hi : i < L.length) : 
   w.cell? ⟨g, i * 6, none⟩ = some (.int .i64 (L[i]).id) ∧ w.cell? ⟨g, i * 6 + 1, none⟩ = some (.int .i64 (L[i]).prog) ∧ w.cell? ⟨g, i * 6 + 2, none⟩ = some (.int .i64 (L[i]).at_)
   ∧ w.cell? ⟨g, i * 6 + 3, none⟩ = some (.bool (L[i]).has) ∧ w.cell? ⟨g, i * 6 + 4, none⟩ = some (.int .u64 (L[i]).when) ∧ w.cell? ⟨g, i * 6 + 5, none⟩ = some (.int .i64 (L[i]).start) := by
  have hc : (L.map Tm.cells)[i]? = some (L[i]).cells := by simp [hi]
  exact ⟨h.cell hc (k := 0) (by omega), h.cell hc (k := 1) (by omega), h.cell hc (k := 2) (by omega), h.cell hc (k := 3) (by omega), h.cell hc (k := 4) (by omega), h.cell hc (k := 5) (by omega)⟩

def swapT (L : List Tm) (i j : Nat) (hi : i < L.length) (hj : j < L.length) : List Tm := (L.set i L[j]).set j L[i]

set_option maxHeartbeats 400000 in
theorem swap_any (g n c i j : Nat) (w : World) (L : List Tm) (hi : i < L.length) (hj : j < L.length) (hm : L.length ≤ 1000000)
   (h : Own w (.slice (some ⟨g,0,none⟩) n c) L) :
    Calls Try.prog 55 #[.slice (some ⟨g,0,none⟩) n c, .int .i64 i, .int .i64 j] w fun e w' => e = .returned (.tuple #[]) ∧ Own w' (.slice (some ⟨g,0,none⟩) n c) (swapT L i j hi hj) ∧ Kept (· = g) w w' := by
  obtain ⟨i0, hI0, hI1, hI2, hI3⟩ := info_parts info70
  have hn := h.len
  simp only [List.length_map] at hn
  obtain ⟨ha0, ha1, ha2, ha3, ha4, ha5⟩ := h.cells hi
  obtain ⟨hb0, hb1, hb2, hb3, hb4, hb5⟩ := h.cells hj
  have hi' : i < n := by omega
  have hj' : j < n := by omega
  have hn' : n ≤ 1000000 := by omega
  clear hn
  go_enter Try.func55, Try.ntmps55
  refine wp_region_mix [.w, .w, .w, .w, .w, .w, .w, .l, .w, .w, .w, .l, .w, .t, .w, .t] (by kernel_rfl) (by kernel_rfl) (fun w' => w' = w.drew) ?_
  repeat (first
    | (refine mix_w1 ?_; go_big_quiet_step (fail); refine wpQuiet_nil ?_)
    | (refine mix_l1 rfl ?_; go_big_quiet_step (fail); refine wpQuiet_nil ?_))
  refine mix_t fun Q' hQ' => ?_
  go_wp2_with (refine wpList_storeElem (L[j]).cells rfl (.tmp 18) (.tmp 13) 70 rfl hI0 hI2 g n c i _ rfl rfl rfl (Tm.cells_one _) h.drew (by simpa using hi) ?_; intro w1 hw1 hk1)
  repeat (first
    | (refine mix_w1 ?_; go_big_quiet_step (fail); refine wpQuiet_nil ?_)
    | (refine mix_l1 rfl ?_; go_big_quiet_step (fail); refine wpQuiet_nil ?_))
  refine mix_t fun Q' hQ' => ?_
  go_wp2_with (refine wpList_storeElem (L[i]).cells rfl (.tmp 19) (.tmp 17) 70 rfl hI0 hI2 g n c j _ rfl rfl rfl (Tm.cells_one _) hw1 (by simpa using hj) ?_; intro w2 hw2 hk2)
  refine mix_nil ?_
  go_end0
  refine ⟨rfl, ?_, ?_⟩
  · have e : (swapT L i j hi hj).map Tm.cells = ((L.map Tm.cells).set i (L[j]).cells).set j (L[i]).cells := by simp [swapT, List.map_set]
    unfold Own
    rw [e]
    exact hw2
  · exact ((Kept.refl _ w).drew.trans hk1 (fun _ _ h => h)).trans hk2 (fun _ _ h => h)

def Tm.lt (a b : Tm) : Bool := decide (a.when < b.when) || (a.when == b.when && decide (a.start < b.start))

set_option maxHeartbeats 400000 in
theorem less_any (g n c i j : Nat) (w : World) (L : List Tm) (hi : i < L.length) (hj : j < L.length) (hm : L.length ≤ 1000000)
   (h : Own w (.slice (some ⟨g,0,none⟩) n c) L) :
    Calls Try.prog 54 #[.slice (some ⟨g,0,none⟩) n c, .int .i64 i, .int .i64 j] w fun e w' => e = .returned (.bool ((L[i]).lt L[j])) ∧ ∃ k, w' = w.drewN k := by
  have hn := h.len
  simp only [List.length_map] at hn
  obtain ⟨ha0, ha1, ha2, ha3, ha4, ha5⟩ := h.cells hi
  obtain ⟨hb0, hb1, hb2, hb3, hb4, hb5⟩ := h.cells hj
  have hi' : i < n := by omega
  have hj' : j < n := by omega
  have hn' : n ≤ 1000000 := by omega
  clear hn ha0 ha1 ha2 ha3 hb0 hb1 hb2 hb3
  unfold Tm.lt
  generalize L[i] = x at *
  generalize L[j] = y at *
  clear hi hj h
  by_cases h1 : x.when < y.when
  · go_enter Try.func54, Try.ntmps54
    go_wp2
    refine wp_region_mix [.w, .w, .w, .w, .l, .w, .w, .w, .w, .l, .w, .w, .w, .w, .w, .w, .l, .w, .w, .w, .w, .l, .w, .w, .w, .w, .w, .w, .l, .w, .w, .w, .w, .l, .w, .w, .w, .t] (by kernel_rfl) (by kernel_rfl) (fun w' => w' = w.drew) ?_
    repeat (first
      | (refine mix_w1 ?_; go_big_quiet_step (fail); refine wpQuiet_nil ?_)
      | (refine mix_l1 rfl ?_; go_big_quiet_step (fail); refine wpQuiet_nil ?_)
      | (refine mix_t fun Q' hQ' => ?_; go_wp2))
    refine mix_nil ?_
    go_wp2
    go_ret
    exact ⟨by simp [h1], 1, rfl⟩
  have h1d : decide (x.when < y.when) = false := by simpa using h1
  by_cases h2 : x.when = y.when
  · have h2d : (x.when == y.when) = true := by simpa using h2
    have HH : Hid (x.when = y.when) := h2
    clear h2 h1
    go_enter Try.func54, Try.ntmps54
    go_wp2
    refine wp_region_mix [.w, .w, .w, .w, .l, .w, .w, .w, .w, .l, .w, .w, .w, .w, .w, .w, .l, .w, .w, .w, .w, .l, .w, .w, .w, .w, .w, .w, .l, .w, .w, .w, .w, .l, .w, .w, .w, .t] (by kernel_rfl) (by kernel_rfl) (fun w' => w' = w.drew) ?_
    repeat (first
      | (refine mix_w1 ?_; go_big_quiet_step (fail); refine wpQuiet_nil ?_)
      | (refine mix_l1 rfl ?_; go_big_quiet_step (fail); refine wpQuiet_nil ?_)
      | (refine mix_t fun Q' hQ' => ?_; go_wp2))
    refine mix_nil ?_
    go_wp2
    go_ret
    exact ⟨by simp [h1d, h2d], 1, rfl⟩
  · have h2d : (x.when == y.when) = false := by simpa using h2
    clear h2 h1
    go_enter Try.func54, Try.ntmps54
    go_wp2
    refine wp_region_mix [.w, .w, .w, .w, .l, .w, .w, .w, .w, .l, .w, .w, .w, .w, .w, .w, .l, .w, .w, .w, .w, .l, .w, .w, .w, .w, .w, .w, .l, .w, .w, .w, .w, .l, .w, .w, .w, .t] (by kernel_rfl) (by kernel_rfl) (fun w' => w' = w.drew) ?_
    repeat (first
      | (refine mix_w1 ?_; go_big_quiet_step (fail); refine wpQuiet_nil ?_)
      | (refine mix_l1 rfl ?_; go_big_quiet_step (fail); refine wpQuiet_nil ?_)
      | (refine mix_t fun Q' hQ' => ?_; go_wp2))
    refine mix_nil ?_
    go_wp2
    go_ret
    exact ⟨by simp [h1d, h2d], 1, rfl⟩

def swp (L : List Tm) (i j : Nat) : List Tm := match L[i]?, L[j]? with
  | some x, some y => (L.set i y).set j x
  | _, _ => L
def ltAt (L : List Tm) (i j : Nat) : Bool := match L[i]?, L[j]? with
  | some x, some y => x.lt y
  | _, _ => false
theorem swp_eq {L : List Tm} {i j : Nat} (hi : i < L.length) (hj : j < L.length) : swapT L i j hi hj = swp L i j := by
  simp [swp, swapT, List.getElem?_eq_getElem hi, List.getElem?_eq_getElem hj]
theorem ltAt_eq {L : List Tm} {i j : Nat} (hi : i < L.length) (hj : j < L.length) : (L[i]).lt L[j] = ltAt L i j := by
  simp [ltAt, List.getElem?_eq_getElem hi, List.getElem?_eq_getElem hj]
theorem swp_len (L : List Tm) (i j : Nat) : (swp L i j).length = L.length := by
  unfold swp; split <;> simp

/-- the cell at a holds the slice v of the timers L -/
structure D (w : World) (a : Addr) (v : Value) (L : List Tm) : Prop where
  cell : w.cell? a = some v
  fro : w.frozen? a = false
  own : Own w v L
  ne : v.ownBlock ≠ some a.block
  small : L.length ≤ 1000000

theorem D.kept {w w' : World} {a : Addr} {v : Value} {L : List Tm} {F : Nat → Prop} (h : D w a v L) (hk : Kept F w w') (ha : a.block < w.heap.size) (h1 : ¬ F a.block) (h2 : ∀ g, v.ownBlock = some g → ¬ F g) : D w' a v L :=
  ⟨(hk.cell ha h1).trans h.cell, (hk.frozen ha h1).trans h.fro, h.own.kept hk h2, h.ne, h.small⟩
theorem D.lt {w : World} {a : Addr} {v : Value} {L : List Tm} (h : D w a v L) : a.block < w.heap.size := World.block_lt_of_cell? w a h.cell
theorem D.drewN {w : World} {a : Addr} {v : Value} {L : List Tm} (h : D w a v L) (k : Nat) : D (w.drewN k) a v L := ⟨h.cell, h.fro, h.own, h.ne, h.small⟩

theorem m_less (a : Addr) (w : World) {v : Value} (h : w.cell? a = some v) : (method 206 73 (.pointer (some a)) "Less").run Try.prog w = .ok (54, v) w := by
  have e : (method 206 73 (.pointer (some a)) "Less").run Try.prog w = (do let v ← load a; pure (54, v) : Sem (Nat × Value)).run Try.prog w := by kernel_rfl
  rw [e]
  simp [h]
theorem m_swap (a : Addr) (w : World) {v : Value} (h : w.cell? a = some v) : (method 206 73 (.pointer (some a)) "Swap").run Try.prog w = .ok (55, v) w := by
  have e : (method 206 73 (.pointer (some a)) "Swap").run Try.prog w = (do let v ← load a; pure (55, v) : Sem (Nat × Value)).run Try.prog w := by kernel_rfl
  rw [e]
  simp [h]
theorem m_len (a : Addr) (w : World) {v : Value} (h : w.cell? a = some v) : (method 206 73 (.pointer (some a)) "Len").run Try.prog w = .ok (29, v) w := by
  have e : (method 206 73 (.pointer (some a)) "Len").run Try.prog w = (do let v ← load a; pure (29, v) : Sem (Nat × Value)).run Try.prog w := by kernel_rfl
  rw [e]
  simp [h]
theorem m_pop (a : Addr) (w : World) : (method 206 73 (.pointer (some a)) "Pop").run Try.prog w = .ok (56, .pointer (some a)) w := by kernel_rfl

theorem D.less {w : World} {a : Addr} {v : Value} {L : List Tm} (h : D w a v L) (p q : Nat) {i j : Int} (hi : i = p) (hp : p < L.length) (hj : j = q) (hq : q < L.length) :
    Calls Try.prog 54 #[v, .int .i64 i, .int .i64 j] w fun e w' => e = .returned (.bool (ltAt L p q)) ∧ ∃ k, w' = w.drewN k := by
  subst hi hj
  obtain ⟨g, cap, rfl, _⟩ := h.own.some_ (by simp; omega)
  rw [← ltAt_eq hp hq]
  exact less_any g _ _ p q w L hp hq h.small h.own

theorem D.swap {w : World} {a : Addr} {v : Value} {L : List Tm} (h : D w a v L) (p q : Nat) {i j : Int} (hi : i = p) (hp : p < L.length) (hj : j = q) (hq : q < L.length) :
    Calls Try.prog 55 #[v, .int .i64 i, .int .i64 j] w fun e w' => e = .returned (.tuple #[]) ∧ D w' a v (swp L p q) ∧ Kept (fun k => v.ownBlock = some k) w w' := by
  subst hi hj
  obtain ⟨g, cap, rfl, _⟩ := h.own.some_ (by simp; omega)
  refine (swap_any g _ _ p q w L hp hq h.small h.own).mono ?_
  rintro e w' ⟨rfl, ho, hk⟩
  have hk' : Kept (fun k => (Value.slice (some ⟨g, 0, none⟩) (L.map Tm.cells).length cap).ownBlock = some k) w w' := hk.mono (fun x _ hx => by subst hx; rfl)
  refine ⟨rfl, ⟨(hk'.cell h.lt h.ne).trans h.cell, (hk'.frozen h.lt h.ne).trans h.fro, ?_, h.ne, by rw [swp_len]; exact h.small⟩, hk'⟩
  rw [← swp_eq hp hq]
  exact ho

def upL (L : List Tm) (j : Nat) : List Tm :=
  if h : 0 < j then
    if ltAt L j ((j - 1) / 2) then upL (swp L ((j - 1) / 2) j) ((j - 1) / 2) else L
  else L
termination_by j
decreasing_by omega

theorem upL_zero (L : List Tm) : upL L 0 = L := by rw [upL]; simp
theorem upL_stop {L : List Tm} {j : Nat} (h : ltAt L j ((j - 1) / 2) = false) : upL L j = L := by rw [upL]; simp [h]
theorem upL_go {L : List Tm} {j : Nat} (hj : 0 < j) (h : ltAt L j ((j - 1) / 2) = true) : upL L j = upL (swp L ((j - 1) / 2) j) ((j - 1) / 2) := by rw [upL]; simp [h, hj]

set_option maxHeartbeats 400000 in
theorem up_any (a : Addr) (v : Value) (L : List Tm) (j : Nat) (w : World) (h : D w a v L) (hj : j < L.length) :
    Calls Try.prog 36 #[.iface 73 (.pointer (some a)), .int .i64 j] w fun e w' => e = .returned (.tuple #[]) ∧ D w' a v (upL L j) ∧ Kept (fun k => v.ownBlock = some k) w w' := by
  go_enter Try.func36, Try.ntmps36
  go_wp2
  go_loopw [1] (fun jv wr => ∃ (k : Nat) (L' : List Tm), jv = .int .i64 k ∧ k < L'.length ∧ D wr a v L' ∧ upL L j = upL L' k ∧ Kept (fun k => v.ownBlock = some k) w wr) (fun jv _ => (intOf jv).toNat)
  case atStart => exact ⟨j, L, rfl, hj, h, rfl, Kept.refl _ _⟩
  case round =>
    obtain ⟨k, L', rfl, hk, hD, hu, hkp⟩ := hrel
    have hs := hD.small
    have hcell := hD.cell
    have HU := Lib.hid hu
    clear hu
    by_cases h0 : k = 0
    · subst h0
      go_wp2_with fail
      go_end0
      rw [HU.out, upL_zero]
      exact ⟨rfl, hD, hkp⟩
    · have hm1 := m_less a wr hcell
      have hm2 : ∀ n, (method 206 73 (.pointer (some a)) "Swap").run Try.prog (wr.drewN n) = .ok (55, v) (wr.drewN n) := fun n => m_swap a (wr.drewN n) hcell
      have hne : (((k : Int) - 1) / 2 == (k : Int)) = false := by rw [beq_eq_false_iff_ne]; omega
      cases hlt : ltAt L' k ((k - 1) / 2)
      · go_wp2_with (go_at_call 54; refine (hD.less k ((k - 1) / 2) rfl hk (by omega) (by omega)).mono ?_; rintro e w1 ⟨rfl, n1, rfl⟩)
        go_end0
        exact ⟨rfl, by rw [HU.out, upL_stop hlt]; exact hD.drewN n1, hkp.drewN n1⟩
      · go_wp2_with (first
          | (go_at_call 54; refine (hD.less k ((k - 1) / 2) rfl hk (by omega) (by omega)).mono ?_; rintro e w1 ⟨rfl, n1, rfl⟩)
          | (go_at_call 55; refine ((hD.drewN n1).swap ((k - 1) / 2) k (by omega) (by omega) rfl hk).mono ?_; rintro e w2 ⟨rfl, hD2, hk2⟩))
        have hU2 := HU.out.trans (upL_go (by omega) hlt)
        go_roundw
        case rel => exact ⟨(k - 1) / 2, _, by go_num, by rw [swp_len]; omega, hD2, hU2, (hkp.drewN n1).trans hk2 (fun _ _ h => h)⟩
        case measure => simp [intOf]; omega

def downL (L : List Tm) (i n : Nat) : List Tm × Nat :=
  if h : 2 * i + 1 < n then
    if ltAt L (if 2 * i + 2 < n && ltAt L (2 * i + 2) (2 * i + 1) then 2 * i + 2 else 2 * i + 1) i then
      downL (swp L i (if 2 * i + 2 < n && ltAt L (2 * i + 2) (2 * i + 1) then 2 * i + 2 else 2 * i + 1)) (if 2 * i + 2 < n && ltAt L (2 * i + 2) (2 * i + 1) then 2 * i + 2 else 2 * i + 1) n
    else (L, i)
  else (L, i)
termination_by n - i
decreasing_by split <;> omega

theorem downL_end {L : List Tm} {i n : Nat} (h : ¬ 2 * i + 1 < n) : downL L i n = (L, i) := by rw [downL]; simp [h]
theorem downL_l {L : List Tm} {i n : Nat} (h : 2 * i + 1 < n) (hj : ¬ (2 * i + 2 < n) ∨ ltAt L (2 * i + 2) (2 * i + 1) = false) :
    downL L i n = if ltAt L (2 * i + 1) i then downL (swp L i (2 * i + 1)) (2 * i + 1) n else (L, i) := by
  have e : (decide (2 * i + 2 < n) && ltAt L (2 * i + 2) (2 * i + 1)) = false := by rcases hj with h | h <;> simp [h]
  rw [downL]; simp only [h, e, dite_true, Bool.false_eq_true, if_false]
theorem downL_r {L : List Tm} {i n : Nat} (h : 2 * i + 2 < n) (hj : ltAt L (2 * i + 2) (2 * i + 1) = true) :
    downL L i n = if ltAt L (2 * i + 2) i then downL (swp L i (2 * i + 2)) (2 * i + 2) n else (L, i) := by
  have e : (decide (2 * i + 2 < n) && ltAt L (2 * i + 2) (2 * i + 1)) = true := by simp [h, hj]
  rw [downL]; simp only [show 2 * i + 1 < n by omega, e, dite_true, if_true]

set_option maxHeartbeats 1000000 in
theorem down_any (a : Addr) (v : Value) (L : List Tm) (i0 n : Nat) (w : World) (h : D w a v L) (hi : i0 ≤ n) (hn : n ≤ L.length) :
    Calls Try.prog 35 #[.iface 73 (.pointer (some a)), .int .i64 i0, .int .i64 n] w fun e w' => e = .returned (.bool (decide (i0 < (downL L i0 n).2))) ∧ D w' a v (downL L i0 n).1 ∧ Kept (fun k => v.ownBlock = some k) w w' := by
  have hsm := h.small
  go_enter Try.func35, Try.ntmps35
  go_wp2
  go_loopw [7] (fun iv wr => ∃ (i : Nat) (L' : List Tm), iv = .int .i64 i ∧ i ≤ n ∧ n ≤ L'.length ∧ D wr a v L' ∧ downL L i0 n = downL L' i n ∧ Kept (fun k => v.ownBlock = some k) w wr) (fun iv _ => n - (intOf iv).toNat)
  case atStart => exact ⟨i0, L, rfl, hi, hn, h, rfl, Kept.refl _ _⟩
  case round =>
    obtain ⟨i, L', rfl, hi', hk, hD, hu, hkp⟩ := hrel
    have hs := hD.small
    have hcell := hD.cell
    have HU := Lib.hid hu
    clear hu
    by_cases hend : 2 * i + 1 < n
    case neg =>
      go_wp2_with fail
      go_ret
      rw [HU.out, downL_end hend]
      exact ⟨by simp, hD, hkp⟩
    have hm1 : ∀ n, (method 206 73 (.pointer (some a)) "Less").run Try.prog (wr.drewN n) = .ok (54, v) (wr.drewN n) := fun n => m_less a (wr.drewN n) hcell
    have hm2 : ∀ n, (method 206 73 (.pointer (some a)) "Swap").run Try.prog (wr.drewN n) = .ok (55, v) (wr.drewN n) := fun n => m_swap a (wr.drewN n) hcell
    have hm0 := m_less a wr hcell
    by_cases h2 : 2 * i + 2 < n
    case neg =>
      cases hlt : ltAt L' (2 * i + 1) i
      · go_wp2_with (go_at_call 54; refine (hD.less (2 * i + 1) i (by omega) (by omega) rfl (by omega)).mono ?_; rintro e w1 ⟨rfl, n1, rfl⟩)
        go_ret
        rw [HU.out, downL_l hend (.inl h2), hlt]
        exact ⟨by simp, hD.drewN n1, hkp.drewN n1⟩
      · go_wp2_with (first
          | (go_at_call 54; refine (hD.less (2 * i + 1) i (by omega) (by omega) rfl (by omega)).mono ?_; rintro e w1 ⟨rfl, n1, rfl⟩)
          | (go_at_call 55; refine ((hD.drewN n1).swap i (2 * i + 1) rfl (by omega) (by omega) (by omega)).mono ?_; rintro e w2 ⟨rfl, hD2, hk2⟩))
        have hU2 := HU.out.trans (downL_l hend (.inl h2))
        rw [hlt, if_pos rfl] at hU2
        go_roundw
        case rel => exact ⟨2 * i + 1, _, by go_num, by omega, by rw [swp_len]; omega, hD2, hU2, (hkp.drewN n1).trans hk2 (fun _ _ h => h)⟩
        case measure => simp [intOf]; omega
    cases hr : ltAt L' (2 * i + 2) (2 * i + 1)
    · cases hlt : ltAt L' (2 * i + 1) i
      · go_wp2_with fail
        refine (hD.less (2 * i + 2) (2 * i + 1) (by omega) (by omega) (by omega) (by omega)).mono ?_; rintro e w1 ⟨rfl, n1, rfl⟩
        go_wp2_with fail
        refine ((hD.drewN n1).less (2 * i + 1) i (by omega) (by omega) rfl (by omega)).mono ?_; rintro e w1 ⟨rfl, n2, rfl⟩
        go_wp2_with fail
        go_ret
        rw [HU.out, downL_l hend (.inr hr), hlt]
        exact ⟨by simp, hD.drewN _, hkp.drewN _⟩
      · go_wp2_with fail
        refine (hD.less (2 * i + 2) (2 * i + 1) (by omega) (by omega) (by omega) (by omega)).mono ?_; rintro e w1 ⟨rfl, n1, rfl⟩
        go_wp2_with fail
        refine ((hD.drewN n1).less (2 * i + 1) i (by omega) (by omega) rfl (by omega)).mono ?_; rintro e w1 ⟨rfl, n2, rfl⟩
        go_wp2_with fail
        refine ((hD.drewN _).swap i (2 * i + 1) rfl (by omega) (by omega) (by omega)).mono ?_; rintro e w2 ⟨rfl, hD2, hk2⟩
        have hU2 := HU.out.trans (downL_l hend (.inr hr))
        rw [hlt, if_pos rfl] at hU2
        go_wp2_with fail
        go_roundw
        case rel => exact ⟨2 * i + 1, _, by go_num, by omega, by rw [swp_len]; omega, hD2, hU2, (hkp.drewN _).trans hk2 (fun _ _ h => h)⟩
        case measure => simp [intOf]; omega
    · cases hlt : ltAt L' (2 * i + 2) i
      · go_wp2_with fail
        refine (hD.less (2 * i + 2) (2 * i + 1) (by omega) (by omega) (by omega) (by omega)).mono ?_; rintro e w1 ⟨rfl, n1, rfl⟩
        go_wp2_with fail
        refine ((hD.drewN n1).less (2 * i + 2) i (by omega) (by omega) rfl (by omega)).mono ?_; rintro e w1 ⟨rfl, n2, rfl⟩
        go_wp2_with fail
        go_ret
        rw [HU.out, downL_r h2 hr, hlt]
        exact ⟨by simp, hD.drewN _, hkp.drewN _⟩
      · go_wp2_with fail
        refine (hD.less (2 * i + 2) (2 * i + 1) (by omega) (by omega) (by omega) (by omega)).mono ?_; rintro e w1 ⟨rfl, n1, rfl⟩
        go_wp2_with fail
        refine ((hD.drewN n1).less (2 * i + 2) i (by omega) (by omega) rfl (by omega)).mono ?_; rintro e w1 ⟨rfl, n2, rfl⟩
        go_wp2_with fail
        refine ((hD.drewN _).swap i (2 * i + 2) rfl (by omega) (by omega) (by omega)).mono ?_; rintro e w2 ⟨rfl, hD2, hk2⟩
        have hU2 := HU.out.trans (downL_r h2 hr)
        rw [hlt, if_pos rfl] at hU2
        go_wp2_with fail
        go_roundw
        case rel => exact ⟨2 * i + 2, _, by go_num, by omega, by rw [swp_len]; omega, hD2, hU2, (hkp.drewN _).trans hk2 (fun _ _ h => h)⟩
        case measure => simp [intOf]; omega

end Go.Proofs.Ytaehmaocibimeaa
