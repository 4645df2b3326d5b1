import Derived.Test.YtahabogjfcdjkaaKn
set_option linter.unusedSimpArgs false
set_option linter.unusedVariables false
namespace Go.Proofs.Ytahabogjfcdjkaa
open Go.RowKit

theorem leB_four (n : Nat) : leB n 4 = [UInt8.ofNat n, UInt8.ofNat (n / 256), UInt8.ofNat (n / 256 / 256), UInt8.ofNat (n / 256 / 256 / 256)] := rfl
theorem leB_inj4 {i j : Nat} (hi : i < 4294967296) (hj : j < 4294967296) (h : leB i 4 = leB j 4) : i = j := by
  simp only [leB_four, List.cons.injEq, and_true] at h
  obtain ⟨h0, h1, h2, h3⟩ := h
  have e0 := congrArg UInt8.toNat h0
  have e1 := congrArg UInt8.toNat h1
  have e2 := congrArg UInt8.toNat h2
  have e3 := congrArg UInt8.toNat h3
  simp only [UInt8.toNat_ofNat'] at e0 e1 e2 e3
  omega
theorem leB_small {i : Nat} (hi : i < 256) : leB i 4 = [UInt8.ofNat i, 0, 0, 0] := by
  rw [leB_four]
  have e : i / 256 = 0 := by omega
  simp only [e]
  rfl
theorem lookS_app {α : Type} {l r : List (List UInt8 × α)} {k : List UInt8} (h : lookS l k = none) : lookS (l ++ r) k = lookS r k := by
  induction l with
  | nil => rfl
  | cons y l ih =>
    obtain ⟨a, b⟩ := y
    simp only [lookS] at h
    split at h
    · cases h
    · rename_i e
      simp only [List.cons_append, lookS, if_neg e]
      exact ih h
theorem lookS_app1 {α : Type} {l r : List (List UInt8 × α)} {k : List UInt8} {u : α} (h : lookS l k = some u) : lookS (l ++ r) k = some u := by
  induction l with
  | nil => cases h
  | cons y l ih =>
    obtain ⟨a, b⟩ := y
    simp only [lookS] at h
    simp only [List.cons_append, lookS]
    split at h
    · rename_i e; rw [if_pos e]; exact h
    · rename_i e; rw [if_neg e]; exact ih h
theorem entA_some (b : Nat) {i n : Nat} (hi : i < n) (hn : n ≤ 256) : lookS (entA b n) (leB i 4) = some (((b + i : Nat) : Int) + 1) := by
  induction n with
  | zero => omega
  | succ n ih =>
    rw [entA_succ]
    by_cases e : i < n
    · exact lookS_app1 (ih e (by omega))
    · obtain rfl : i = n := by omega
      rw [lookS_app (entA_none b (by omega))]
      simp [lookS]
theorem entA_far (b : Nat) {i n : Nat} (hi : n ≤ i) (hn : n ≤ 256) (h4 : i < 4294967296) : lookS (entA b n) (leB i 4) = none := by
  refine lookS_none fun y hy e => ?_
  obtain ⟨j, hj, rfl⟩ := List.mem_map.1 hy
  have hj' := List.mem_range.1 hj
  have := leB_inj4 (i := j) (j := i) (by omega) h4 e
  omega

theorem defArr {nn : Nat} (h1 : ¬ (nn : Int) < 1) (h2 : ¬ 64 < (nn : Int)) : defB { (⟨1, 4, 2, (nn : Int), false, 0⟩ : Df) with type := 0 } = true := by
  unfold defB
  rw [if_pos rfl]
  unfold kindB1 valB inB
  simp
  omega

theorem entA_some' {i n : Nat} (hi : i < n) (hn : n ≤ 256) : lookS (entA 0 n) (leB i 4) = some ((i : Int) + 1) := by
  have := entA_some 0 hi hn
  rwa [Nat.zero_add] at this
theorem cellsArr (an : Nat) (ha : an < 4294967296) : (#[.int .u8 ((an : Int) % 256), .int .u8 ((an : Int) / 256 % 256), .int .u8 ((an : Int) / 65536 % 256), .int .u8 ((an : Int) / 16777216)] : Array Value) = (bcells (leB an 4)).toArray := by
  have e0 : ((an : Int) % 256) = (((UInt8.ofNat an).toNat : Nat) : Int) := by rw [UInt8.toNat_ofNat']; omega
  have e1 : ((an : Int) / 256 % 256) = (((UInt8.ofNat (an / 256)).toNat : Nat) : Int) := by rw [UInt8.toNat_ofNat']; omega
  have e2 : ((an : Int) / 65536 % 256) = (((UInt8.ofNat (an / 256 / 256)).toNat : Nat) : Int) := by rw [UInt8.toNat_ofNat']; omega
  have e3 : ((an : Int) / 16777216) = (((UInt8.ofNat (an / 256 / 256 / 256)).toNat : Nat) : Int) := by rw [UInt8.toNat_ofNat']; omega
  rw [e0, e1, e2, e3, leB_four]
  rfl

theorem cellsIdx {i : Nat} (h : i < 256) : (#[.int .u8 (i : Int), .int .u8 0, .int .u8 0, .int .u8 0] : Array Value) = (bcells (leB i 4)).toArray := by
  have e0 : (i : Int) = (((UInt8.ofNat i).toNat : Nat) : Int) := by rw [UInt8.toNat_ofNat']; omega
  rw [leB_small h]
  show _ = #[Value.int .u8 (((UInt8.ofNat i).toNat : Nat) : Int), .int .u8 0, .int .u8 0, .int .u8 0]
  rw [← e0]
theorem Bs.two {w : World} {v : Value} {a b : UInt8} (h : Bs w v [a, b]) : ∃ g cap, v = .slice (some ⟨g, 0, none⟩) 2 cap ∧ w.cell? ⟨g, 0, none⟩ = some (.int .u8 (a.toNat : Int)) ∧ w.cell? ⟨g, 1, none⟩ = some (.int .u8 (b.toNat : Int)) := by
  rcases h.shape with ⟨_, hl⟩ | ⟨g, cap, rfl, _, _⟩
  · simp at hl
  · exact ⟨g, cap, rfl, h.cell (i := 0) (c := bcell a) rfl (k := 0) (by omega), h.cell (i := 1) (c := bcell b) rfl (k := 0) (by omega)⟩

set_option maxHeartbeats 4000000 in
set_option maxRecDepth 100000 in
theorem walk_array (en : Int) (an : Nat) (v : UInt8) (ha : an < 4294967296) (w : World) : Calls Try.prog 3 #[.int .i64 en, .int .u32 an, .int .u8 v.toNat] w fun e w' => e = .returned (.bool true) ∧ Kept (fun _ => False) w w' := by
  by_cases h1 : en < 1
  · have h1' : decide (en < 1) = true := decide_eq_true h1
    go_enter Try.func3, Try.ntmps3
    go_wp2_with fail
    refine (known_any w).mono ?_
    rintro e w1 ⟨rfl, hk1⟩
    go_wp2_with fail
    go_ret
    exact ⟨rfl, hk1⟩
  by_cases h2 : 64 < en
  · go_enter Try.func3, Try.ntmps3
    go_wp2_with fail
    refine (known_any w).mono ?_
    rintro e w1 ⟨rfl, hk1⟩
    go_wp2_with fail
    go_ret
    exact ⟨rfl, hk1⟩
  obtain ⟨nn, rfl⟩ : ∃ nn : Nat, en = nn := ⟨en.toNat, by omega⟩
  go_enter Try.func3, Try.ntmps3
  go_wp2_with fail
  refine (known_any w).mono ?_
  rintro e w1 ⟨rfl, hk1⟩
  go_wp2_with fail
  refine (memNew_any w1).mono ?_
  rintro e w2 ⟨rfl, hm2, hbl2, hk2, hz2⟩
  go_wp2_with fail
  refine (new_array ⟨1, 4, 2, (nn : Int), false, 0⟩ w1.heap.size (.slice none 0 0) [] w2 hm2 (by decide) rfl (defArr (by omega) (by omega))).mono ?_
  rintro e w3 ⟨q, m, v', L', rfl, hM3, hgr, hfp, hk3⟩
  simp only [Int.toNat_natCast] at hM3 hgr
  have hK3 : Kept (fun _ => False) w w3 := (hk1.trans hk2 (fun _ _ h => h)).trans hk3 (fun k hk h => by
    rw [hbl2] at h
    have := List.mem_singleton.1 h
    have := hk1.size
    omega)
  have hfp3 : ∀ k, fpMp ⟨q, w1.heap.size, m, .slice none 0 0, v'⟩ L' k → w.heap.size ≤ k := fun k hk => by
    have := hk1.size
    rcases hfp k hk with h | h
    · rw [hbl2] at h
      have := List.mem_singleton.1 h
      omega
    · have := hk2.size
      omega
  clear hfp hk3 hbl2
  go_wp2_with fail
  rw [cellsArr an ha, show (#[Value.int .u8 (v.toNat : Int), Value.int .u8 1] : Array Value) = (bcells [v, 1]).toArray from rfl]
  have hkA : Kept (fun _ => False) w3 ((w3.alloc (.cells (bcells (leB an 4)).toArray 5)).alloc (.cells (bcells [v, 1]).toArray 5)) := ((Kept.refl _ w3).alloc _).alloc _
  have hkey := (By.ofNew w3 (leB an 4) 4 (by rw [leB_len]; exact Nat.le_refl _)).alloc (.cells (bcells [v, 1]).toArray 5)
  rw [leB_len] at hkey
  have hval := byNew2 w3 (.cells (bcells (leB an 4)).toArray 5) [v, 1] 2 (Nat.le_refl 2)
  have hM4 := hM3.quiet hkA
  have hK4 := hK3.trans hkA (fun _ _ h => h)
  have hkl : w3.heap.size < ((w3.alloc (.cells (bcells (leB an 4)).toArray 5)).alloc (.cells (bcells [v, 1]).toArray 5)).heap.size := by simp; omega
  have hkb : ¬ fpMp ⟨q, w1.heap.size, m, .slice none 0 0, v'⟩ L' w3.heap.size := fun h => absurd (hM3.lt h) (Nat.lt_irrefl _)
  generalize (w3.alloc (.cells (bcells (leB an 4)).toArray 5)).alloc (.cells (bcells [v, 1]).toArray 5) = w4 at *
  have hupd : Calls Try.prog 10 #[.pointer (some ⟨q, 0, none⟩), .slice (some ⟨w3.heap.size, 0, none⟩) 4 4, .slice (some ⟨w3.heap.size + 1, 0, none⟩) 2 2, .int .u64 0] w4 fun e w' => ∃ L2, e = .returned (.int .i64 (if an < nn then 0 else 93)) ∧
      Mp w' ⟨q, w1.heap.size, m, .slice none 0 0, v'⟩ ⟨⟨1, 4, 2, (nn : Int), false, 0⟩, entA 0 nn, []⟩ L2 ∧ (∀ k, fpMp ⟨q, w1.heap.size, m, .slice none 0 0, v'⟩ L2 k → fpMp ⟨q, w1.heap.size, m, .slice none 0 0, v'⟩ L' k) ∧ (∀ i, i < nn → ∃ r, L2[i]? = some r ∧ r.b = if i = an then [v, 1] else [0, 0]) ∧ Kept (fun k => fpMp ⟨q, w1.heap.size, m, .slice none 0 0, v'⟩ L' k) w4 w' := by
    by_cases hin : an < nn
    · rw [if_pos hin]
      obtain ⟨r, hr, hrb, _⟩ := hgr.new an hin
      rw [show ([] : List Rg).length + an = an by simp] at hr
      refine (update_old _ _ _ _ _ (leB an 4) [v, 1] 0 _ hM4 hkey hval (by rw [leB_len]; rfl) rfl (entA_some' hin (by omega)) hr (by rw [hrb]; rfl) rfl (Nat.zero_le _) Nat.zero_lt_two).mono ?_
      rintro e w5 ⟨rfl, hM5, hb5, hk5⟩
      refine ⟨_, rfl, hM5, fun k hk => ?_, fun i hi => ?_, hk5.mono (fun k _ h => .inr (.inr (.inr h)))⟩
      · rcases hk with h | h | h | h
        · exact .inl h
        · exact .inr (.inl h)
        · exact .inr (.inr (.inl h))
        · exact .inr (.inr (.inr (by rw [← hb5]; exact h)))
      · rw [List.getElem?_set]
        obtain ⟨r2, hr2, hrb2, _⟩ := hgr.new i hi
        rw [show ([] : List Rg).length + i = i by simp] at hr2
        by_cases e : an = i
        · subst e
          have hl := (List.getElem?_eq_some_iff.1 hr).1
          rw [if_pos rfl, if_pos hl, if_pos rfl]
          exact ⟨_, rfl, rfl⟩
        · rw [if_neg e, if_neg (fun h => e h.symm)]
          exact ⟨r2, hr2, hrb2⟩
    · rw [if_neg hin]
      have hno := entA_far 0 (i := an) (n := nn) (by omega) (by omega) ha
      have e93 : refC (⟨⟨1, 4, 2, (nn : Int), false, 0⟩, entA 0 nn, []⟩ : MS) (lookS (entA 0 nn) (leB an 4)).isSome 0 = 93 := by rw [hno]; unfold refC; simp
      refine (update_refused _ _ _ _ _ (leB an 4) [v, 1] 0 _ hM4 hkey hval (by rw [leB_len]; rfl) rfl (fun h => absurd (e93.symm.trans h) (by decide))).mono ?_
      rintro e w5 ⟨rfl, n, rfl⟩
      refine ⟨L', congrArg (fun z => Ending.returned (.int .i64 z)) e93, hM4.drewN n, fun k hk => hk, fun i hi => ?_, (Kept.refl _ _).drewN n⟩
      obtain ⟨r2, hr2, hrb2, _⟩ := hgr.new i hi
      rw [show ([] : List Rg).length + i = i by simp] at hr2
      rw [if_neg (by omega)]
      exact ⟨r2, hr2, hrb2⟩
  refine hupd.mono ?_
  clear hupd
  rintro e w5 ⟨L2, rfl, hM5, hfp5, hrg5, hk5⟩
  go_wp2_with fail
  all_goals
    refine (delete_array _ _ _ _ (leB an 4) w5 hM5 (hkey.kept hk5 (fun g hg h => hkb (by cases hg; exact h))) (by rw [leB_len]; rfl) rfl).mono ?_
    rintro e w6 ⟨rfl, rfl⟩
    go_wp2_with fail
    have hK5 := (hK4.trans hk5 (fun k hk h => absurd (hfp3 k h) (by omega))).drew
    have hM6 := hM5.drew
    generalize w5.drew = w6 at *
    clear hM5 hk5 hM4 hK4 hkey hval hkA hM3 hgr hK3
    go_loopw [13] (fun iv wr => ∃ i : Nat, iv = .int .i64 i ∧ i ≤ nn ∧ Mp wr ⟨q, w1.heap.size, m, .slice none 0 0, v'⟩ ⟨⟨1, 4, 2, (nn : Int), false, 0⟩, entA 0 nn, []⟩ L2 ∧ Kept (fun _ => False) w wr) (fun iv _ => nn - (intOf iv).toNat)
    case atStart => exact ⟨0, rfl, Nat.zero_le _, hM6, hK5⟩
    case round =>
      obtain ⟨i, rfl, hi, hM7, hK7⟩ := hrel
      by_cases hlt : i < nn
      case neg =>
        obtain rfl : i = nn := by omega
        go_wp2_with fail
        go_ret
        exact ⟨rfl, hK7⟩
      case pos =>
        have hi64 : i < 64 := by omega
        go_wp2_with fail
        rw [cellsIdx (by omega)]
        have hkB : Kept (fun _ => False) wr (wr.alloc (.cells (bcells (leB i 4)).toArray 5)) := (Kept.refl _ wr).alloc _
        have hkey7 := By.ofNew wr (leB i 4) 4 (by rw [leB_len]; exact Nat.le_refl _)
        rw [leB_len] at hkey7
        obtain ⟨r, hr, hrb⟩ := hrg5 i hlt
        refine (value_has _ _ _ _ (leB i 4) _ (hM7.quiet hkB) hkey7 (by rw [leB_len]; rfl) (i := i) (entA_some' hlt (by omega)) hr).mono ?_
        rintro e w8 ⟨ov, rfl, hov, hovb, hk8⟩
        have hM8 := (hM7.quiet hkB).quiet hk8
        have hK8 := (hK7.trans hkB (fun _ _ h => h)).trans hk8 (fun _ _ h => h)
        clear hovb hk8 hkB hM7 hK7 hkey7
        by_cases ei : i = an
        · rw [if_pos ei] at hrb
          rw [hrb] at hov
          obtain ⟨g, cap, rfl, hc0, hc1⟩ := hov.two
          subst ei
          go_wp2_with fail
          go_roundw
          case rel => exact ⟨i + 1, by go_num, by omega, hM8, hK8⟩
          case measure => simp [intOf]; omega
        · rw [if_neg ei] at hrb
          rw [hrb] at hov
          obtain ⟨g, cap, rfl, hc0, hc1⟩ := hov.two
          have e1 : ((i : Int) == (an : Int)) = false := by simp; omega
          have e2 : ((i : Int) != (an : Int)) = true := by simp; omega
          go_wp2_with fail
          go_roundw
          case rel => exact ⟨i + 1, by go_num, by omega, hM8, hK8⟩
          case measure => simp [intOf]; omega

end Go.Proofs.Ytahabogjfcdjkaa
