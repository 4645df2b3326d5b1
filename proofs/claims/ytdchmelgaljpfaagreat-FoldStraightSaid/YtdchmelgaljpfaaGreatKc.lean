import Derived.Test.YtdchmelgaljpfaaGreatKa
import Derived.Deep.LoopGhost
import Derived.WalkMore
set_option linter.unusedSimpArgs false
set_option linter.unusedVariables false
namespace Go.Proofs.YtdchmelgaljpfaaGreat
open Go.RowKit

/-! ### slots without a fault: where they go -/
def succL (l : List In) (i : Nat) : List Int := match l[i]? with | some x => nextC i x ++ (namC i x).toList | Option.none => []
theorem check_parts {l : List In} (h : checkI l = 0) : slotsC l = 0 ∧ (partsL l).length ≤ 64 ∧ (∀ p ∈ partsL l, endB l p = true) ∧ ∀ i, i < l.length → badR l i = false := by
  have h' := h
  rw [checkI_eq] at h'
  by_cases hs : subsC l = 0
  · have hz := subs_zero hs
    rw [if_pos hs] at h'
    unfold subsC at hs
    rw [if_pos hz] at hs
    unfold endedC at hs
    by_cases h64 : 64 < (partsL l).length
    · rw [if_pos h64] at hs
      cases hs
    rw [if_neg h64] at hs
    by_cases ha : (partsL l).all (endB l) = true
    · refine ⟨hz, by omega, by simpa using ha, ?_⟩
      by_cases hb : ((List.range l.length).all fun i => !badR l i) = true
      · simpa using hb
      · rw [if_neg hb] at h'
        cases h'
    · rw [if_neg ha] at hs
      cases hs
  · rw [if_neg hs] at h'
    exact absurd h' hs
theorem whole_get {l : List In} {i : Nat} {x : In} (hx : l[i]? = some x) (h : wholeB l i = true) : ∃ y, l[i + 1]? = some y ∧ y.op = 0 ∧ y.dst = 0 ∧ y.src = 0 ∧ y.off = 0 ∧ (x.src = 0 ∨ y.imm = 0) := by
  unfold wholeB at h
  rw [hx] at h
  cases hy : l[i + 1]? with
  | none => rw [hy] at h; cases h
  | some y =>
    rw [hy] at h
    unfold zeroB at h
    simp only [Bool.and_eq_true, beq_iff_eq] at h
    obtain ⟨⟨⟨⟨h1, h2⟩, h3⟩, h4⟩, h5⟩ := h
    refine ⟨y, rfl, h1, h2, h3, h4, ?_⟩
    split at h5
    · rename_i hc
      exact .inl hc
    · exact .inr h5
theorem sec_get {l : List In} {i : Nat} (hi : i < l.length) : ∃ b, (secL l)[i]? = some b := ⟨_, List.getElem?_eq_getElem (by rw [sec_len]; exact hi)⟩
/-- a part's end is the next one's begin, or the end of all -/
theorem part_end {l : List In} (hz : slotsC l = 0) {k : Nat} {p : Pt2} (hp : (partsL l)[k]? = some p) : p.2 = l.length ∨ (0 ≤ p.2 ∧ (secL l)[p.2.toNat]? = some false) := by
  obtain ⟨hk, rfl⟩ := parts_at hp
  unfold partAt
  by_cases hl : k + 1 < (beginsL l).length
  · rw [if_pos hl]
    right
    have := (begins_ok hz).2.2 ((beginsL l).getD (k + 1) 0) (by rw [List.getD_eq_getElem?_getD, List.getElem?_eq_getElem hl]; exact List.getElem_mem hl)
    exact ⟨this.1, this.2.2⟩
  · rw [if_neg hl]
    exact .inl rfl
/-- the slot behind an operation that goes on there -/
theorem behind_ok {l : List In} (h : checkI l = 0) {i : Nat} {x : In} (hx : l[i]? = some x) (hs : (secL l)[i]? = some false) (h149 : x.op ≠ 149) (h5 : x.op ≠ 5) {n : Nat} (hn : n = if x.op = 24 then i + 2 else i + 1) :
    n < l.length ∧ (secL l)[n]? = some false ∧ ofC (partsL l) n = ofC (partsL l) i := by
  obtain ⟨hz, _, he, _⟩ := check_parts h
  have hi := (List.getElem?_eq_some_iff.1 hx).1
  obtain ⟨k, p, hp, h1, h2, hk⟩ := part_ex hz (t := i) (by omega) (by omega)
  obtain ⟨f, t, rfl, hft, htl⟩ := (parts_ok hz).nat hp
  simp only at h1 h2
  have hend := he _ (List.mem_of_getElem? hp)
  have hpe := part_end hz hp
  simp only [Int.toNat_natCast] at hpe
  unfold endB at hend
  simp only [Int.toNat_natCast] at hend
  have hlast : lastC l t ≠ i := by
    intro e
    rw [e, hx] at hend
    simp only [Bool.or_eq_true, beq_iff_eq] at hend
    omega
  have hin : ∀ m : Nat, i ≤ m → m < t → ofC (partsL l) m = ofC (partsL l) i := fun m hm1 hm2 => by
    rw [hk, part_of hz hp (t := m) (by simp only; omega) (by simp only; omega)]
  by_cases h24 : x.op = 24
  · rw [if_pos h24] at hn
    have hw := (wrong_rest (slot_wrong hx hs ▸ (slots_zero hz).2.2 i hi)).2.2.1
    rw [h24] at hw
    have hw : wholeB l i = true := by simpa using hw
    obtain ⟨y, hy, hy0, _⟩ := whole_get hx hw
    have hi1 := (List.getElem?_eq_some_iff.1 hy).1
    have hs1 := sec_succ hx hs hi1
    rw [h24] at hs1
    have hs1 : (secL l)[i + 1]? = some true := hs1
    have h3 : i + 1 ≠ t := by
      intro e
      rcases hpe with e2 | ⟨_, e2⟩
      · omega
      · rw [← e, hs1] at e2
        cases e2
    have h4 : i + 2 ≠ t := by
      intro e
      apply hlast
      unfold lastC
      rw [← e, show i + 2 - 1 = i + 1 by omega, hs1]
      simp
    have hs2 := sec_succ hy hs1 (by omega)
    rw [Bool.not_true, Bool.and_false] at hs2
    subst hn
    exact ⟨by omega, hs2, hin _ (by omega) (by omega)⟩
  · rw [if_neg h24] at hn
    have h3 : i + 1 ≠ t := by
      intro e
      apply hlast
      unfold lastC
      rw [← e, Nat.add_sub_cancel, hs]
      simp
    have hs1 := sec_succ hx hs (by omega)
    have e24 : (x.op == 24) = false := by simpa using h24
    rw [e24, Bool.false_and] at hs1
    subst hn
    exact ⟨by omega, hs1, hin _ (by omega) (by omega)⟩
/-- where a jump goes -/
theorem jump_ok {l : List In} (h : checkI l = 0) {i : Nat} {x : In} (hx : l[i]? = some x) (hs : (secL l)[i]? = some false) (hj : isJumpB x = true) :
    ∃ n : Nat, (i : Int) + 1 + x.off = n ∧ n < l.length ∧ (secL l)[n]? = some false ∧ ofC (partsL l) n = ofC (partsL l) i := by
  obtain ⟨hz, _, _, hb⟩ := check_parts h
  have hi := (List.getElem?_eq_some_iff.1 hx).1
  have hbi := hb i hi
  unfold badR at hbi
  rw [hx, hs] at hbi
  simp only [hj, Bool.true_and, Bool.or_eq_false_iff, decide_eq_false_iff_not] at hbi
  obtain ⟨h1, h2, h3⟩ := hbi
  have ht : toR l.length i x.off = (i : Int) + 1 + x.off ∧ (i : Int) + 1 + x.off < l.length := by
    unfold toR at h1 ⊢
    split
    · rename_i hc
      rw [if_pos hc] at h1
      omega
    · rename_i hc
      rw [if_neg hc] at h1
      split
      · rename_i hc2
        rw [if_pos hc2] at h1
        omega
      · exact ⟨rfl, by omega⟩
  rw [ht.1] at h1 h2 h3
  obtain ⟨n, hn⟩ : ∃ n : Nat, (i : Int) + 1 + x.off = n := ⟨((i : Int) + 1 + x.off).toNat, by omega⟩
  rw [hn] at h2 h3 ht
  obtain ⟨b, hbn⟩ := sec_get (l := l) (i := n) (by omega)
  rw [Int.toNat_natCast, hbn] at h2
  refine ⟨n, hn, by omega, ?_, by simpa using h3⟩
  cases b
  · exact hbn
  · simp at h2
theorem next_ok {l : List In} (h : checkI l = 0) {i : Nat} {x : In} (hx : l[i]? = some x) (hs : (secL l)[i]? = some false) {j : Int} (hj : j ∈ nextC i x) :
    ∃ n : Nat, j = n ∧ n < l.length ∧ (secL l)[n]? = some false ∧ ofC (partsL l) n = ofC (partsL l) i := by
  unfold nextC at hj
  split at hj
  · cases hj
  rename_i h149
  have h149 : x.op ≠ 149 := by simpa using h149
  split at hj
  · rename_i h24
    have h24 : x.op = 24 := by simpa using h24
    have hj : j = (i : Int) + 2 := by simpa using hj
    have := behind_ok h hx hs h149 (by omega) (n := i + 2) (by rw [if_pos h24])
    exact ⟨i + 2, by omega, this⟩
  rename_i h24
  have h24 : x.op ≠ 24 := by simpa using h24
  split at hj
  · rename_i hnj
    have h5 : x.op ≠ 5 := fun e => by rw [ja_jump e] at hnj; cases hnj
    have hj : j = (i : Int) + 1 := by simpa using hj
    have := behind_ok h hx hs h149 h5 (n := i + 1) (by rw [if_neg h24])
    exact ⟨i + 1, by omega, this⟩
  rename_i hnj
  have hjj : isJumpB x = true := by simpa using hnj
  obtain ⟨n, hn, hr⟩ := jump_ok h hx hs hjj
  split at hj
  · have hj : j = (i : Int) + 1 + x.off := by simpa using hj
    exact ⟨n, by omega, hr⟩
  · rename_i h50
    simp only [Bool.or_eq_true, beq_iff_eq, not_or] at h50
    have hj : j = (i : Int) + 1 ∨ j = (i : Int) + 1 + x.off := by simpa using hj
    rcases hj with hj | hj
    · have := behind_ok h hx hs h149 h50.1 (n := i + 1) (by rw [if_neg h24])
      exact ⟨i + 1, by omega, this⟩
    · exact ⟨n, by omega, hr⟩
theorem nam_ok {l : List In} (h : checkI l = 0) {i : Nat} {x : In} (hx : l[i]? = some x) (hs : (secL l)[i]? = some false) (hc : isCallB x = true) :
    ∃ n : Nat, (i : Int) + 1 + x.imm = n ∧ 1 ≤ n ∧ n < l.length ∧ (secL l)[n]? = some false := by
  have ht := tgt_rng (check_parts h).1 (i := i) (t := (i : Int) + 1 + x.imm) (by unfold tgtC; rw [hx, hs]; simp [hc])
  refine ⟨((i : Int) + 1 + x.imm).toNat, by omega, by omega, by omega, ht.2.2⟩
theorem succ_ok {l : List In} (h : checkI l = 0) {i : Nat} (hs : (secL l)[i]? = some false) {j : Int} (hj : j ∈ succL l i) : ∃ n : Nat, j = n ∧ n < l.length ∧ (secL l)[n]? = some false := by
  unfold succL at hj
  cases hx : l[i]? with
  | none => rw [hx] at hj; cases hj
  | some x =>
    rw [hx] at hj
    simp only [List.mem_append] at hj
    rcases hj with hj | hj
    · obtain ⟨n, h1, h2, h3, _⟩ := next_ok h hx hs hj
      exact ⟨n, h1, h2, h3⟩
    · unfold namC at hj
      split at hj
      · rename_i hc
        obtain ⟨n, h1, _, h2, h3⟩ := nam_ok h hx hs hc
        exact ⟨n, by simp at hj; omega, h2, h3⟩
      · simp at hj

/-! ### which slots are reached -/
inductive Rch (l : List In) : Nat → Prop
  | zero : Rch l 0
  | step {i j : Nat} : Rch l i → (j : Int) ∈ succL l i → Rch l j
theorem rch_ok {l : List In} (h : checkI l = 0) {i : Nat} (hr : Rch l i) : i < l.length ∧ (secL l)[i]? = some false := by
  induction hr with
  | zero =>
    have := (slots_zero (check_parts h).1).1
    exact ⟨by omega, sec_zero (by omega)⟩
  | step _ hj ih =>
    obtain ⟨n, h1, h2, h3⟩ := succ_ok h ih.2 hj
    obtain rfl : _ = n := Int.ofNat_inj.1 h1
    exact ⟨h2, h3⟩
open Classical in
noncomputable def rchL (l : List In) : List Bool := (List.range l.length).map fun k => decide (Rch l k)
theorem rchL_len (l : List In) : (rchL l).length = l.length := by simp [rchL]
theorem rchL_get {l : List In} {k : Nat} (hk : k < l.length) : (rchL l)[k]? = some (decide (Rch l k) (h := Classical.propDecidable _)) := by
  unfold rchL
  rw [List.getElem?_map, range_take _ _ hk]
  rfl
theorem rchL_eq {l : List In} {B : List Bool} (hl : B.length = l.length) (h : ∀ k, k < l.length → (B[k]? = some true ↔ Rch l k)) : B = rchL l := by
  apply List.ext_getElem?
  intro k
  by_cases hk : k < l.length
  · obtain ⟨b, hb⟩ : ∃ b, B[k]? = some b := ⟨_, List.getElem?_eq_getElem (by omega)⟩
    rw [rchL_get hk, hb]
    have := h k hk
    rw [hb] at this
    congr 1
    rw [Bool.eq_iff_iff]
    rw [Option.some.injEq] at this
    rw [this]
    simp
  · rw [List.getElem?_eq_none (by omega), List.getElem?_eq_none (by rw [rchL_len]; omega)]

end Go.Proofs.YtdchmelgaljpfaaGreat
set_option linter.unusedSimpArgs false
set_option linter.unusedVariables false
namespace Go.Proofs.YtdchmelgaljpfaaGreat
open Go.RowKit

/-! ### the search for what is reached -/
structure WtA (l : List In) (B : List Bool) (W : List Int) : Prop where
  len : B.length = l.length
  fromB : ∀ k, B[k]? = some true → Rch l k
  fromW : ∀ j ∈ W, ∃ n : Nat, j = n ∧ Rch l n
  out : ∀ i, B[i]? = some true → ∀ j ∈ succL l i, (∃ n : Nat, j = n ∧ B[n]? = some true) ∨ j ∈ W
  zero : B[0]? = some true ∨ 0 ∈ W
theorem WtA.start (l : List In) : WtA l (List.replicate l.length false) [0] where
  len := by simp
  fromB k h := by
    rw [List.getElem?_replicate] at h
    split at h <;> simp at h
  fromW j hj := by
    rw [List.mem_singleton] at hj
    exact ⟨0, by rw [hj]; rfl, Rch.zero⟩
  out i h := by
    rw [List.getElem?_replicate] at h
    split at h <;> simp at h
  zero := .inr (by simp)
theorem WtA.done {l : List In} {B : List Bool} (h : WtA l B []) : B = rchL l := by
  refine rchL_eq h.len fun k hk => ⟨h.fromB k, fun hr => ?_⟩
  induction hr with
  | zero => exact h.zero.elim id (fun e => by cases e)
  | step hi hj ih =>
    rename_i i j
    by_cases hil : i < l.length
    · rcases h.out i (ih hil) _ hj with ⟨n, e, hn⟩ | e
      · obtain rfl : _ = n := Int.ofNat_inj.1 e
        exact hn
      · cases e
    · have : succL l i = [] := by unfold succL; rw [List.getElem?_eq_none (by omega)]
      rw [this] at hj
      cases hj
theorem WtA.old {l : List In} {B : List Bool} {W : List Int} {k : Nat} (h : WtA l B (W ++ [(k : Int)])) (hk : B[k]? = some true) : WtA l B W where
  len := h.len
  fromB := h.fromB
  fromW j hj := h.fromW j (List.mem_append_left _ hj)
  out i hi j hj := by
    rcases h.out i hi j hj with e | e
    · exact .inl e
    · rcases List.mem_append.1 e with e | e
      · exact .inr e
      · exact .inl ⟨k, by simpa using e, hk⟩
  zero := by
    rcases h.zero with e | e
    · exact .inl e
    · rcases List.mem_append.1 e with e | e
      · exact .inr e
      · have : (0 : Int) = k := List.mem_singleton.1 e
        obtain rfl : k = 0 := by omega
        exact .inl hk
theorem WtA.new {l : List In} {B : List Bool} {W : List Int} {k : Nat} (h : WtA l B (W ++ [(k : Int)])) (hk : k < l.length) (hsu : ∀ j ∈ succL l k, ∃ n : Nat, j = n) : WtA l (B.set k true) (W ++ succL l k) := by
  have hkr : Rch l k := by
    obtain ⟨n, e, hn⟩ := h.fromW k (by simp)
    obtain rfl : k = n := Int.ofNat_inj.1 e
    exact hn
  have hset : ∀ i, B[i]? = some true → (B.set k true)[i]? = some true := fun i hi => by
    rw [List.getElem?_set]
    split
    · rename_i e
      rw [if_pos (by have := h.len; omega)]
    · exact hi
  have hself : (B.set k true)[k]? = some true := by
    rw [List.getElem?_set, if_pos rfl, if_pos (by have := h.len; omega)]
  have hget : ∀ i, (B.set k true)[i]? = some true → i = k ∨ B[i]? = some true := fun i hi => by
    rw [List.getElem?_set] at hi
    split at hi
    · rename_i e
      exact .inl e.symm
    · exact .inr hi
  refine ⟨by rw [List.length_set]; exact h.len, fun i hi => ?_, fun j hj => ?_, fun i hi j hj => ?_, ?_⟩
  · rcases hget i hi with rfl | e
    · exact hkr
    · exact h.fromB i e
  · rcases List.mem_append.1 hj with e | e
    · exact h.fromW j (List.mem_append_left _ e)
    · obtain ⟨n, rfl⟩ := hsu j e
      exact ⟨n, rfl, Rch.step hkr e⟩
  · rcases hget i hi with rfl | hi
    · exact .inr (List.mem_append_right _ hj)
    · rcases h.out i hi j hj with ⟨n, e, hn⟩ | e
      · exact .inl ⟨n, e, hset n hn⟩
      · rcases List.mem_append.1 e with e | e
        · exact .inr (List.mem_append_left _ e)
        · exact .inl ⟨k, by simpa using e, hself⟩
  · rcases h.zero with e | e
    · exact .inl (hset 0 e)
    · rcases List.mem_append.1 e with e | e
      · exact .inr (List.mem_append_left _ e)
      · have : (0 : Int) = k := List.mem_singleton.1 e
        obtain rfl : k = 0 := by omega
        exact .inl hself
theorem succ_at {l : List In} {k : Nat} {x : In} (hx : l[k]? = some x) : succL l k = nextC k x ++ (namC k x).toList := by unfold succL; rw [hx]
theorem next_len (k : Nat) (x : In) : (nextC k x).length ≤ 2 := by
  unfold nextC
  split
  · simp
  · split
    · simp
    · split
      · simp
      · split <;> simp
theorem count_set' {B : List Bool} {k : Nat} (h : B[k]? = some false) : (B.set k true).count false + 1 = B.count false := by
  induction B generalizing k with
  | nil => simp at h
  | cons b B ih =>
    cases k with
    | zero =>
      simp at h
      subst h
      simp
    | succ k =>
      simp at h
      have := ih h
      simp only [List.set_cons_succ, List.count_cons]
      omega
set_option maxHeartbeats 8000000 in
set_option maxRecDepth 100000 in
theorem freached_any (l : List In) (a : Option Addr) (c : Nat) (w : World) (h : Ins w (.slice a l.length c) l) (hok : InsOk l) (hc : checkI l = 0) :
    Calls Tryz.prog 112 #[.slice a l.length c] w fun e w' => ∃ ov, e = .returned ov ∧ Bls w' ov (rchL l) ∧ Kept (fun _ => False) w w' ∧ ∀ g, ov.ownBlock = some g → w.heap.size ≤ g := by
  have hlen := hok.len
  have hl1 := (slots_zero (check_parts hc).1).1
  have hzz := (check_parts hc).1
  have HNE := Lib.hid (fun i x W hI hx hk => next_any l a c i x W hI hok hx hk)
  have HNA := Lib.hid (fun i x W hI hx hk hrg => fnames_any l a c i x W hI hok hx hk hrg)
  obtain ⟨i0, hI0, hI1, hI2, hI3⟩ := info_parts infoI
  obtain ⟨j0, hJ0, hJ1, hJ2, hJ3⟩ := info_parts infoB
  go_enter Tryz.func112, Tryz.ntmps112
  go_wp2_with fail
  go_step3
  go_wp2_with (refine wpList_makeSl (w := w) rfl (.tmp 9) (.tmp 9) 85 rfl (.bool false) rfl Tryz.underlying85 hJ0 hJ1 hJ2 hJ3 (by omega) l.length rfl rfl (by omega) ?_; intro w1 hB1 hk1)
  have hB2 : Bls (w1.alloc (.cells #[.int .i64 0] 3)) (.slice (some ⟨w.heap.size, 0, none⟩) l.length l.length) (List.replicate l.length false) := by
    unfold Bls
    rw [List.map_replicate]
    exact hB1.alloc _
  have hK2 : Kept (fun _ => False) w (w1.alloc (.cells #[.int .i64 0] 3)) := hk1.alloc _
  have hW2 := ints_one w1 0
  have hgl1 := Sl.lt hB1 _ rfl
  clear hB1
  go_step3
  go_wp2_with fail
  go_loopg [4] (4 * l.length + 1) (fun k wv wr => ∃ (B : List Bool) (W : List Int), WtA l B W ∧ Ints wr wv W ∧ (∀ g, wv.ownBlock = some g → w.heap.size < g) ∧ Bls wr (.slice (some ⟨w.heap.size, 0, none⟩) l.length l.length) B ∧ Kept (fun _ => False) w wr ∧ 4 * B.count false + W.length ≤ k ∧ k ≤ 10000000)
  case atStart => exact ⟨_, _, WtA.start l, hW2, fun g hg => by simp [Value.ownBlock] at hg; omega, hB2, hK2, by rw [List.count_replicate_self]; simp, by omega⟩
  case round =>
    clear hB2 hK2 hW2 hk1
    obtain ⟨B, W, hwt, hW, hown, hB, hK, hgk, hgb⟩ := hrel
    rcases List.eq_nil_or_concat W with rfl | ⟨W0, kk, rfl⟩
    · have hdn := hwt.done
      obtain ⟨oA, oC, hov⟩ := Sl.any hW
      simp only [List.map_nil, List.length_nil] at hov
      subst hov
      rw [hdn] at hB
      clear hdn hwt hW hgk HNE HNA
      go_wp2_with fail
      rw [Exit.noGoto_ret]
      go_ret
      exact ⟨_, rfl, hB, hK, fun g hg => Nat.le_of_eq (Option.some.inj (show some w.heap.size = some g from hg))⟩
    · rw [List.concat_eq_append] at *
      obtain ⟨k, rfl, hkr⟩ := hwt.fromW kk (by simp)
      obtain ⟨hkl, hks⟩ := rch_ok hc hkr
      obtain ⟨x, hx⟩ : ∃ x, l[k]? = some x := ⟨_, List.getElem?_eq_getElem hkl⟩
      have hkn := known_of hzz hx hks
      have hsu : ∀ j ∈ succL l k, ∃ n : Nat, j = n := fun j hj => by
        obtain ⟨n, e, _⟩ := succ_ok hc hks hj
        exact ⟨n, e⟩
      have hrg : isCallB x = true → 0 ≤ (k : Int) + 1 + x.imm ∧ (k : Int) + 1 + x.imm < l.length := fun e => by
        obtain ⟨n, e1, e2, e3, _⟩ := nam_ok hc hx hks e
        omega
      obtain ⟨wg, cap, rfl, hcap, hwl⟩ := Sl.some_ hW (by simp)
      have hne : w.heap.size < wg := hown wg rfl
      have hlw : (List.map icell' (W0 ++ [(k : Int)])).length = W0.length + 1 := by simp
      rw [hlw] at hW hcap ⊢
      have hwc := Ints.cell hW (i := W0.length) (x := (k : Int)) (by simp)
      have hW0 := Ints.pop hW
      have hcut := cutI wg 0 (W0.length + 1) cap W0.length (by omega)
      have hBl := hwt.len
      have hgb2 : W0.length ≤ 10000000 := by simp at hgk; omega
      obtain ⟨b, hb⟩ : ∃ b, B[k]? = some b := ⟨_, List.getElem?_eq_getElem (by omega)⟩
      have hbc := Bls.cell hB hb
      have hbl := Sl.lt hB _ rfl
      have HW0 := Lib.hid (fun (e : b = true) => hwt.old (by rw [hb, e]))
      have HW1 := Lib.hid (hwt.new hkl hsu)
      have HCT := Lib.hid (fun (e : b = false) => count_set' (B := B) (k := k) (by rw [hb, e]))
      have HSA := Lib.hid (succ_at hx)
      have HGK := Lib.hid hgk
      have HN1 := Lib.hid (fun W hI => HNE.out k x W hI hx hkn)
      have HN2 := Lib.hid (fun W hI => HNA.out k x W hI hx hkn hrg)
      have hnl := next_len k x
      have hnm : (namC k x).toList = if isCallB x = true then [(k : Int) + 1 + x.imm] else [] := by
        unfold namC
        cases isCallB x <;> simp
      rw [hnm] at HSA
      generalize isCallB x = ic at *
      generalize (k : Int) + 1 + x.imm = t at *
      clear hwt hb hlw hgk hx hkn hsu hkr hks HNE HNA hnm hrg
      cases b with
      | true =>
        go_wp2_with fail
        go_roundg (gk - 1)
        case measure => have := HGK.out; simp at this; omega
        case rel => exact ⟨B, W0, HW0.out (by trivial), hW0, fun g' hg' => by simp [Value.ownBlock] at hg'; omega, hB, hK, by have := HGK.out; simp at this; omega, by omega⟩
      | false =>
        have hfr := Sl.frozen hB k
        have hkS : Kept (fun k => k = w.heap.size) wr (wr.setCell ⟨w.heap.size, k, none⟩ (.bool true)) := Kept.setCell (F := fun k => k = w.heap.size) (Kept.refl _ wr) (fun _ => rfl) _
        have hBS := Bls.set hB (i := k) (by omega) true
        have hWS : Ints (wr.setCell ⟨w.heap.size, k, none⟩ (.bool true)) (.slice (some ⟨wg, 0, none⟩) W0.length cap) W0 := Sl.kept hkS hW0 (fun g' hg' e => by simp [Value.ownBlock] at hg'; omega)
        have hKS : Kept (fun _ => False) w (wr.setCell ⟨w.heap.size, k, none⟩ (.bool true)) := hK.trans hkS (fun k hk e => by omega)
        have HINS := Lib.hid (fun (W : World) (hk : Kept (fun _ => False) w W) => h.kept hk)
        have hszS := hkS.size
        go_wp2_with fail
        refine (HN1.out _ (HINS.out _ hKS)).mono ?_
        rintro e w2 ⟨v2, rfl, hV2, hk2, hown2⟩
        have hWS2 := Sl.kept hk2 hWS (fun _ _ h => h)
        have hsz2 := hk2.size
        generalize nextC k x = N at *
        go_wp2_with (at_builtin; refine wpList_appendI (w := w2) rfl (.tmp 33) (.tmp 36) 47 rfl Tryz.underlying47 hI0 hI1 hI2 hI3 rfl (.slice (some ⟨wg, 0, none⟩) W0.length cap) v2 W0 N rfl rfl hWS2 hV2 (by omega) ?_; intro v3 w3 hW3 hk3 hown3)
        have hBS3 := Sl.kept hk3 (Sl.kept hk2 hBS (fun _ _ h => h)) (fun g' hg' e => by simp [Value.ownBlock] at hg' e; omega)
        have hK3 : Kept (fun _ => False) w w3 := (hKS.trans hk2 (fun _ _ h => h)).trans hk3 (fun k hk e => by simp [Value.ownBlock] at e; omega)
        have hsz3 := hk3.size
        have hOW3 : ∀ g, v3.ownBlock = some g → w.heap.size < g := fun g' hg' => by
          rcases hown3 g' hg' with e | e
          · simp [Value.ownBlock] at e; omega
          · omega
        have HOW3 := Lib.hid hOW3
        have HINC := Lib.hid hcut
        clear hOW3 hown3 hown2 hcut hWS2 hV2
        refine (HN2.out _ (HINS.out _ hK3)).mono ?_
        rintro e w4 ⟨rfl, hk4⟩
        have hBS4 := Sl.kept hk4 hBS3 (fun _ _ h => h)
        have hW4 := Sl.kept hk4 hW3 (fun _ _ h => h)
        have hK4 := hK3.trans hk4 (fun _ _ h => h)
        cases ic with
        | false =>
          simp only [Bool.false_eq_true, if_false]
          go_wp2_with fail
          go_roundg (gk - 1)
          case measure => have := HGK.out; simp at this; omega
          case rel =>
            refine ⟨B.set k true, W0 ++ N, ?_, hW4, HOW3.out, hBS4, hK4, ?_, by omega⟩
            · have := HW1.out
              rw [HSA.out] at this
              simpa using this
            · have h1 := HGK.out
              have h2 := HCT.out (by trivial)
              simp at h1 ⊢
              omega
        | true =>
          simp only [if_true]
          go_wp2_with (at_builtin; refine wpList_pushI (w := w4) rfl (.tmp 45) (.tmp 47) rfl v3 (W0 ++ N) t rfl rfl hW4 (by rw [List.length_append]; omega) ?_; intro v5 w5 hW5 hk5 hown5)
          have hBS5 := Sl.kept hk5 hBS4 (fun g' hg' e => by have := HOW3.out _ e; simp [Value.ownBlock] at hg'; omega)
          have hK5 : Kept (fun _ => False) w w5 := hK4.trans hk5 (fun k hk e => by have := HOW3.out _ e; omega)
          have hsz4 := hk4.size
          go_roundg (gk - 1)
          case measure => have := HGK.out; simp at this; omega
          case rel =>
            refine ⟨B.set k true, W0 ++ N ++ [t], ?_, hW5, fun g' hg' => ?_, hBS5, hK5, ?_, by omega⟩
            · have := HW1.out
              rw [HSA.out] at this
              simpa using this
            · rcases hown5 g' hg' with e | e
              · exact HOW3.out _ e
              · omega
            · have h1 := HGK.out
              have h2 := HCT.out (by trivial)
              simp at h1 ⊢
              omega

end Go.Proofs.YtdchmelgaljpfaaGreat
