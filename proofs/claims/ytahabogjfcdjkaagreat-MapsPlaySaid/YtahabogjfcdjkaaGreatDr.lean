import Derived.Test.YtahabogjfcdjkaaGreatDq
import Derived.Test.YtahabogjfcdjkaaGreatKy
set_option linter.unusedSimpArgs false
set_option linter.unusedVariables false
namespace Go.Proofs.YtahabogjfcdjkaaGreat
open Go.RowKit

theorem delS_no {α : Type} {k : List UInt8} : ∀ {l : List (List UInt8 × α)}, lookS l k = none → delS l k = l
  | [], _ => rfl
  | (a, b) :: l, h => by
    simp only [lookS] at h
    simp only [delS]
    split at h
    · cases h
    · rename_i hne; rw [if_neg hne, delS_no h]
/-! ### Delete -/
def dlI (S : MS) (k : List UInt8) : Int := if asksC S.d k.length = 0 ∧ S.d.kind ≠ 1 then (lookS S.ent k).getD 0 else 0
def dlE (S : MS) (k : List UInt8) : Int := if asksC S.d k.length ≠ 0 then asksC S.d k.length else if S.d.kind = 1 then 95 else if (lookS S.ent k).isSome = true then 0 else 92
def delT (S : MS) (k : List UInt8) : MS := if asksC S.d k.length = 0 ∧ S.d.kind ≠ 1 then { S with ent := delS S.ent k } else S
theorem dl_bad {S : MS} {k : List UInt8} (ha : ¬ asksC S.d k.length = 0) : dlI S k = 0 ∧ dlE S k = asksC S.d k.length ∧ delT S k = S := by
  unfold dlI dlE delT
  exact ⟨if_neg fun e => ha e.1, if_pos ha, if_neg fun e => ha e.1⟩
theorem dl_arr {S : MS} {k : List UInt8} (ha : asksC S.d k.length = 0) (h1 : S.d.kind = 1) : dlI S k = 0 ∧ dlE S k = 95 ∧ delT S k = S := by
  unfold dlI dlE delT
  exact ⟨if_neg fun e => e.2 h1, by rw [if_neg (fun hn => hn ha), if_pos h1], if_neg fun e => e.2 h1⟩
theorem dl_ok {S : MS} {k : List UInt8} (ha : asksC S.d k.length = 0) (h1 : ¬ S.d.kind = 1) : dlI S k = (lookS S.ent k).getD 0 ∧ dlE S k = (if (lookS S.ent k).isSome = true then 0 else 92) ∧ delT S k = { S with ent := delS S.ent k } := by
  unfold dlI dlE delT
  exact ⟨if_pos ⟨ha, h1⟩, by rw [if_neg (fun hn => hn ha), if_neg h1], if_pos ⟨ha, h1⟩⟩
theorem Rel.delT {S R : MS} {C : List See} (h : Rel S R C) (k : List UInt8) : Rel (delT S k) (delT R k) C := by
  by_cases ha : asksC S.d k.length = 0
  · have haR : asksC R.d k.length = 0 := by rw [h.d]; exact ha
    by_cases h1 : S.d.kind = 1
    · rw [(dl_arr ha h1).2.2, (dl_arr haR (by rw [h.d]; exact h1)).2.2]; exact h
    · rw [(dl_ok ha h1).2.2, (dl_ok haR (by rw [h.d]; exact h1)).2.2]; exact h.del k
  · rw [(dl_bad ha).2.2, (dl_bad (S := R) (by rw [h.d]; exact ha)).2.2]; exact h
theorem mdel_any (x : Loc) (S : MS) (L : List Rg) (kv : Value) (k : List UInt8) (w : World) (h : Mp w x S L) (hk : By w kv k) :
    Calls Tryz.prog 24 #[.pointer (some ⟨x.q, 0, none⟩), kv] w fun e w' => e = .returned (.tuple #[.int .i64 (dlI S k), .int .i64 (dlE S k)]) ∧ Mp w' x (delT S k) L ∧ Kept (fun n => fpMp x L n) w w' := by
  by_cases ha : asksC S.d k.length = 0
  · by_cases h1 : S.d.kind = 1
    · obtain ⟨e1, e2, e3⟩ := dl_arr ha h1
      rw [e1, e2, e3]
      refine (delete_array x S L kv k w h hk ha h1).mono ?_
      rintro e w' ⟨rfl, rfl⟩
      exact ⟨rfl, h.drew, (Kept.refl _ w).drew⟩
    · obtain ⟨e1, e2, e3⟩ := dl_ok ha h1
      rw [e1, e2, e3]
      cases hl : lookS S.ent k with
      | none =>
        rw [delS_no hl]
        refine (delete_none x S L kv k w h hk ha h1 hl).mono ?_
        rintro e w' ⟨rfl, rfl⟩
        exact ⟨rfl, h.drew, (Kept.refl _ w).drew⟩
      | some id =>
        refine (delete_has x S L kv k w h hk ha h1 hl).mono ?_
        rintro e w' ⟨rfl, hM, hk'⟩
        exact ⟨rfl, hM, hk'.mono (fun n _ e => .inr (.inl e))⟩
  · obtain ⟨e1, e2, e3⟩ := dl_bad ha
    rw [e1, e2, e3]
    refine (delete_bad x S L kv k w h hk ha).mono ?_
    rintro e w' ⟨rfl, rfl⟩
    exact ⟨rfl, h, Kept.refl _ w⟩
theorem Raw.asks {w : World} {S R : MS} {C : List See} (hR : Rel S R C) {kv : Value} {k : List UInt8} (hk : Raw w kv k) (ha : asksC S.d k.length = 0) : By w kv k := by
  have h3 : S.d.kind ≠ 3 := fun h3 => by
    unfold asksC at ha
    rw [if_pos h3] at ha
    exact absurd ha (by decide)
  have hk1 := (hR.ok h3).1
  unfold asksC at ha
  rw [if_neg h3] at ha
  obtain ⟨A, c, rfl, hb⟩ := hk
  split at ha
  · exact hb (by omega)
  · exact absurd ha (by decide)
theorem rdel_any (y : RLoc) (S R : MS) (M : List Rg) (kv : Value) (k : List UInt8) (w : World) (h : RMp w y R M) {C : List See} (hR : Rel S R C) (hk : Raw w kv k) :
    Calls Tryz.prog 25 #[.pointer (some ⟨y.q, 0, none⟩), kv] w fun e w' => e = .returned (.tuple #[.int .i64 (dlI S k), .int .i64 (dlE S k)]) ∧ ∃ lv', RMp w' { y with lv := lv' } (delT R k) M ∧ (∀ n, fpR { y with lv := lv' } M n → fpR y M n ∨ w.heap.size ≤ n) ∧ Kept (fun n => fpR y M n) w w' := by
  by_cases ha : asksC S.d k.length = 0
  · have hb := hk.asks hR ha
    have haR : asksC R.d k.length = 0 := by rw [hR.d]; exact ha
    by_cases h1 : S.d.kind = 1
    · have h1R : R.d.kind = 1 := by rw [hR.d]; exact h1
      obtain ⟨e1, e2, e3⟩ := dl_arr ha h1
      rw [e1, e2, (dl_arr haR h1R).2.2]
      obtain ⟨A, c, rfl, _⟩ := hk
      refine (rdelete_arr y R M A k.length c w h haR h1R).mono ?_
      rintro e w' ⟨rfl, rfl⟩
      exact ⟨rfl, y.lv, h, fun n hn => .inl hn, Kept.refl _ w⟩
    · have h1R : ¬ R.d.kind = 1 := by rw [hR.d]; exact h1
      obtain ⟨e1, e2, e3⟩ := dl_ok ha h1
      rw [e1, e2, (dl_ok haR h1R).2.2]
      refine (rdelete_any y R M kv k w h hb haR h1R).mono ?_
      rintro e w' ⟨rfl, lv', hM, hF, hk'⟩
      rw [hR.look]
      exact ⟨rfl, lv', hM, hF, hk'⟩
  · have haR : ¬ asksC R.d k.length = 0 := by rw [hR.d]; exact ha
    obtain ⟨e1, e2, e3⟩ := dl_bad ha
    rw [e1, e2, (dl_bad haR).2.2]
    obtain ⟨A, c, rfl, _⟩ := hk
    refine (rdelete_len y R M A k.length c w h haR).mono ?_
    rintro e w' ⟨rfl, rfl⟩
    exact ⟨by rw [hR.d], y.lv, h, fun n hn => .inl hn, Kept.refl _ w⟩

/-! ### Lookup -/
def lkI (S : MS) (k : List UInt8) : Int := if asksC S.d k.length = 0 then (lookS S.ent k).getD 0 else 0
def lkB (S : MS) (k : List UInt8) : Bool := if asksC S.d k.length = 0 then (lookS S.ent k).isSome else false
theorem mlook_any (x : Loc) (S : MS) (L : List Rg) (kv : Value) (k : List UInt8) (w : World) (h : Mp w x S L) (hk : Raw w kv k) {R : MS} {C : List See} (hR : Rel S R C) :
    Calls Tryz.prog 33 #[.pointer (some ⟨x.q, 0, none⟩), kv] w fun e w' => e = .returned (.tuple #[.int .i64 (lkI S k), .bool (lkB S k), .int .i64 (asksC S.d k.length)]) ∧ Kept (fun _ => False) w w' := by
  unfold lkI lkB
  by_cases ha : asksC S.d k.length = 0
  · rw [if_pos ha, if_pos ha]
    refine (lookup_ok x S L kv k w h (hk.asks hR ha) ha).mono ?_
    rintro e w' ⟨rfl, rfl⟩
    exact ⟨by rw [ha], (Kept.refl _ w).drew⟩
  · rw [if_neg ha, if_neg ha]
    obtain ⟨A, c, rfl, _⟩ := hk
    refine (lookup_len x S L A k.length c w h ha).mono ?_
    rintro e w' ⟨rfl, rfl⟩
    exact ⟨rfl, Kept.refl _ w⟩
theorem rlook_any (y : RLoc) (S R : MS) (M : List Rg) (kv : Value) (k : List UInt8) (w : World) (h : RMp w y R M) {C : List See} (hR : Rel S R C) (hk : Raw w kv k) :
    Calls Tryz.prog 34 #[.pointer (some ⟨y.q, 0, none⟩), kv] w fun e w' => e = .returned (.tuple #[.int .i64 (lkI S k), .bool (lkB S k), .int .i64 (asksC S.d k.length)]) ∧ Kept (fun _ => False) w w' := by
  unfold lkI lkB
  by_cases ha : asksC S.d k.length = 0
  · rw [if_pos ha, if_pos ha]
    refine (rlookup_ok y R M kv k w h (hk.asks hR ha) (by rw [hR.d]; exact ha)).mono ?_
    rintro e w' ⟨rfl, hk'⟩
    exact ⟨by rw [ha, hR.look], hk'⟩
  · rw [if_neg ha, if_neg ha]
    obtain ⟨A, c, rfl, _⟩ := hk
    refine (rlookup_len y R M A k.length c w h (by rw [hR.d]; exact ha)).mono ?_
    rintro e w' ⟨rfl, rfl⟩
    exact ⟨by rw [hR.d], Kept.refl _ w⟩

/-! ### Value -/
def valE (S : MS) (k : List UInt8) : Int := if asksC S.d k.length ≠ 0 then asksC S.d k.length else if (lookS S.ent k).isSome = true then 0 else 92
def valL (S : MS) (C : List See) (k : List UInt8) : List UInt8 := if asksC S.d k.length ≠ 0 then [] else match lookS S.ent k with
  | none => []
  | some id => (C[(id - 1).toNat]?.map (·.1)).getD []
theorem val_bad {S : MS} {C : List See} {k : List UInt8} (ha : ¬ asksC S.d k.length = 0) : valE S k = asksC S.d k.length ∧ valL S C k = [] := by
  unfold valE valL
  exact ⟨if_pos ha, if_pos ha⟩
theorem val_none {S : MS} {C : List See} {k : List UInt8} (ha : asksC S.d k.length = 0) (hl : lookS S.ent k = none) : valE S k = 92 ∧ valL S C k = [] := by
  unfold valE valL
  exact ⟨by rw [if_neg (fun hn => hn ha), hl]; rfl, by rw [if_neg (fun hn => hn ha), hl]⟩
theorem val_has {S : MS} {C : List See} {k : List UInt8} {id : Int} (ha : asksC S.d k.length = 0) (hl : lookS S.ent k = some id) : valE S k = 0 ∧ valL S C k = (C[(id - 1).toNat]?.map (·.1)).getD [] := by
  unfold valE valL
  exact ⟨by rw [if_neg (fun hn => hn ha), hl]; rfl, by rw [if_neg (fun hn => hn ha), hl]⟩
theorem Sl.nil1 (w : World) (t : TypeId) : Sl w t 1 (.slice none 0 0) [] := Sl.nil w t 1
theorem value_len (x : Loc) (S : MS) (L : List Rg) (A : Option Addr) (n c : Nat) (w : World) (h : Mp w x S L) (ha : asksC S.d n ≠ 0) :
    Calls Tryz.prog 17 #[.pointer (some ⟨x.q, 0, none⟩), .slice A n c] w fun e w' => e = .returned (.tuple #[.slice none 0 0, .int .i64 (asksC S.d n)]) ∧ w = w' := by
  have hlk := lookup_len x S L A n c w h ha
  have hne : (asksC S.d n != 0) = true := by simpa using ha
  generalize asksC S.d n = c0 at *
  have HLK := Lib.hid hlk
  clear hlk ha h
  go_enter Tryz.func17, Tryz.ntmps17
  go_wp2_with (go_at_call 33; refine HLK.out.mono ?_; rintro e w1 ⟨rfl, rfl⟩)
  go_ret2
  exact ⟨rfl, rfl⟩
theorem mval_any (x : Loc) (S : MS) (L : List Rg) (kv : Value) (k : List UInt8) (w : World) (h : Mp w x S L) (hk : Raw w kv k) {R : MS} {C : List See} (hR : Rel S R C) (hC : L.map Rg.see = C) :
    Calls Tryz.prog 17 #[.pointer (some ⟨x.q, 0, none⟩), kv] w fun e w' => ∃ ov, e = .returned (.tuple #[ov, .int .i64 (valE S k)]) ∧ Bs w' ov (valL S C k) ∧ (∀ g, ov.ownBlock = some g → w.heap.size ≤ g) ∧ Kept (fun _ => False) w w' := by
  by_cases ha : asksC S.d k.length = 0
  · have hb := hk.asks hR ha
    cases hl : lookS S.ent k with
    | none =>
      rw [(val_none (C := C) ha hl).1, (val_none ha hl).2]
      refine (value_none x S L kv k w h hb ha hl).mono ?_
      rintro e w' ⟨rfl, rfl⟩
      exact ⟨_, rfl, Sl.nil1 _ _, fun g hg => by simp [Value.ownBlock] at hg, (Kept.refl _ w).drew⟩
    | some id =>
      obtain ⟨i, r, hid, hi, hrl⟩ := h.ids _ (lookS_mem hl)
      simp only at hid
      subst hid
      rw [(val_has (C := C) ha hl).1, (val_has ha hl).2]
      refine (value_has x S L kv k w h hb ha hl hi).mono ?_
      rintro e w' ⟨ov, rfl, hB, ho, hk'⟩
      refine ⟨ov, rfl, ?_, ho, hk'⟩
      rw [← hC, show ((i : Int) + 1 - 1).toNat = i by omega, List.getElem?_map, hi]
      exact hB
  · rw [(val_bad (C := C) ha).1, (val_bad ha).2]
    obtain ⟨A, c, rfl, _⟩ := hk
    refine (value_len x S L A k.length c w h ha).mono ?_
    rintro e w' ⟨rfl, rfl⟩
    exact ⟨_, rfl, Sl.nil1 _ _, fun g hg => by simp [Value.ownBlock] at hg, Kept.refl _ w⟩
theorem rval_any (y : RLoc) (S R : MS) (M : List Rg) (kv : Value) (k : List UInt8) (w : World) (h : RMp w y R M) {C : List See} (hR : Rel S R C) (hC : M.map Rg.see = C) (hk : Raw w kv k) :
    Calls Tryz.prog 35 #[.pointer (some ⟨y.q, 0, none⟩), kv] w fun e w' => ∃ ov, e = .returned (.tuple #[ov, .int .i64 (valE S k)]) ∧ Bs w' ov (valL S C k) ∧ (∀ g, ov.ownBlock = some g → w.heap.size ≤ g) ∧ Kept (fun _ => False) w w' := by
  by_cases ha : asksC S.d k.length = 0
  · have hb := hk.asks hR ha
    have haR : asksC R.d k.length = 0 := by rw [hR.d]; exact ha
    cases hl : lookS S.ent k with
    | none =>
      rw [(val_none (C := C) ha hl).1, (val_none ha hl).2]
      refine (rvalue_none y R M kv k w h hb haR (by rw [hR.look]; exact hl)).mono ?_
      rintro e w' ⟨rfl, hk'⟩
      exact ⟨_, rfl, Sl.nil1 _ _, fun g hg => by simp [Value.ownBlock] at hg, hk'⟩
    | some id =>
      have hlR : lookS R.ent k = some id := by rw [hR.look]; exact hl
      obtain ⟨i, r, hid, hi, hrl⟩ := h.ids _ (lookS_mem hlR)
      simp only at hid
      subst hid
      rw [(val_has (C := C) ha hl).1, (val_has ha hl).2]
      refine (rvalue_has y R M kv k w h hb haR hlR hi).mono ?_
      rintro e w' ⟨ov, rfl, hB, ho, hk'⟩
      refine ⟨ov, rfl, ?_, ho, hk'⟩
      rw [← hC, show ((i : Int) + 1 - 1).toNat = i by omega, List.getElem?_map, hi]
      exact hB
  · rw [(val_bad (C := C) ha).1, (val_bad ha).2]
    obtain ⟨A, c, rfl, hb⟩ := hk
    refine (rvalue_len y R M A k.length c w h (by rw [hR.d]; exact ha)).mono ?_
    rintro e w' ⟨rfl, rfl⟩
    exact ⟨_, by rw [hR.d], Sl.nil1 _ _, fun g hg => by simp [Value.ownBlock] at hg, Kept.refl _ w⟩

/-! ### Keys, Key -/
def keyE (S : MS) : Int := if S.d.kind = 3 then 95 else 0
theorem mkeysB_any (x : Loc) (S : MS) (L : List Rg) (w : World) (h : Mp w x S L) {R : MS} {C : List See} (hR : Rel S R C) :
    Calls Tryz.prog 36 #[.pointer (some ⟨x.q, 0, none⟩)] w fun e w' => ∃ (ov : Value) (T : List (Value × List UInt8)), e = .returned (.tuple #[ov, .int .i64 (keyE S)]) ∧ Sl w' 39 1 ov (T.map kcell) ∧ (∀ y ∈ T, By w' y.1 y.2) ∧ T.map (·.2) = R.ent.map (·.1) ∧ Kept (fun _ => False) w w' := by
  unfold keyE
  by_cases h3 : S.d.kind = 3
  · rw [if_pos h3]
    refine (mkeys_no x S L w h h3).mono ?_
    rintro e w' ⟨rfl, rfl⟩
    have : R.ent = [] := by have := hR.len; rw [hR.no3 h3] at this; exact List.length_eq_zero_iff.1 this
    exact ⟨_, [], rfl, Sl.nil1 _ _, by simp, by rw [this]; rfl, Kept.refl _ w⟩
  · rw [if_neg h3]
    refine (keys_any x S L w h h3).mono ?_
    rintro e w' ⟨ov, T, rfl, hS, hB, hp, hs, _, hk⟩
    exact ⟨ov, T, rfl, hS, hB, sorted_eq (hp.trans (hR.pm.map (·.1)).symm) hs hR.so, hk⟩
theorem rkeysB_any (y : RLoc) (S R : MS) (M : List Rg) (w : World) (h : RMp w y R M) {C : List See} (hR : Rel S R C) :
    Calls Tryz.prog 37 #[.pointer (some ⟨y.q, 0, none⟩)] w fun e w' => ∃ (ov : Value) (T : List (Value × List UInt8)), e = .returned (.tuple #[ov, .int .i64 (keyE S)]) ∧ Sl w' 39 1 ov (T.map kcell) ∧ (∀ y ∈ T, By w' y.1 y.2) ∧ T.map (·.2) = R.ent.map (·.1) ∧ Kept (fun _ => False) w w' := by
  unfold keyE
  by_cases h3 : S.d.kind = 3
  · rw [if_pos h3]
    refine (rkeys_no y R M w h (by rw [hR.d]; exact h3)).mono ?_
    rintro e w' ⟨rfl, rfl⟩
    have : R.ent = [] := by have := hR.len; rw [hR.no3 h3] at this; exact List.length_eq_zero_iff.1 this
    exact ⟨_, [], rfl, Sl.nil1 _ _, by simp, by rw [this]; rfl, Kept.refl _ w⟩
  · rw [if_neg h3]
    refine (rkeys_any y R M w h (by rw [hR.d]; exact h3)).mono ?_
    rintro e w' ⟨ov, T, rfl, hS, hB, hp, hk⟩
    exact ⟨ov, T, rfl, hS, hB, hp, hk⟩
def keyF (S : MS) (id : Int) : Option (List UInt8) := (S.ent.find? fun y => y.2 == id).map (·.1)
theorem keyF_some {S R : MS} {C : List See} (hR : Rel S R C) {id : Int} {k : List UInt8} (h : (k, id) ∈ S.ent) : keyF S id = some k := by
  unfold keyF
  cases hf : S.ent.find? fun y => y.2 == id with
  | none => exact absurd (List.find?_eq_none.1 hf _ h) (by simp)
  | some z =>
    have h1 := List.find?_some hf
    have h2 := List.mem_of_find?_eq_some hf
    obtain ⟨a, b⟩ := z
    simp only [beq_iff_eq] at h1
    subst h1
    rw [Option.map_some, hR.mem_id h2 h]
theorem keyF_none {S : MS} {id : Int} (h : ∀ y ∈ S.ent, y.2 ≠ id) : keyF S id = none := by
  unfold keyF
  rw [List.find?_eq_none.2 (fun y hy => by simpa using h y hy)]
  rfl
theorem By.nil (w : World) : By w (.slice none 0 0) [] := .inl ⟨0, rfl, rfl⟩
theorem mkey2_any (x : Loc) (S : MS) (L : List Rg) (id : Int) (w : World) (h : Mp w x S L) {R : MS} {C : List See} (hR : Rel S R C) :
    Calls Tryz.prog 30 #[.pointer (some ⟨x.q, 0, none⟩), .int .i64 id] w fun e w' => ∃ ov, e = .returned (.tuple #[ov, .bool (keyF S id).isSome]) ∧ By w' ov ((keyF S id).getD []) ∧ Kept (fun _ => False) w w' := by
  by_cases hid : ∃ y ∈ S.ent, y.2 = id
  · obtain ⟨⟨k, i⟩, hy, hi⟩ := hid
    simp only at hi
    subst hi
    rw [keyF_some hR hy]
    refine (key_any x S L i k w h hy (fun z hz e => by obtain ⟨a, b⟩ := z; simp only at e; subst e; exact hR.mem_id hz hy)).mono ?_
    rintro e w' ⟨ov, rfl, hB, hk⟩
    exact ⟨ov, rfl, hB, hk⟩
  · have hno : ∀ y ∈ S.ent, y.2 ≠ id := fun y hy e => hid ⟨y, hy, e⟩
    rw [keyF_none hno]
    refine (mkey_no x S L id w h hno).mono ?_
    rintro e w' ⟨rfl, hk⟩
    exact ⟨_, rfl, By.nil _, hk⟩
theorem rkey2_any (y : RLoc) (S R : MS) (M : List Rg) (id : Int) (w : World) (h : RMp w y R M) {C : List See} (hR : Rel S R C) :
    Calls Tryz.prog 31 #[.pointer (some ⟨y.q, 0, none⟩), .int .i64 id] w fun e w' => ∃ ov, e = .returned (.tuple #[ov, .bool (keyF S id).isSome]) ∧ By w' ov ((keyF S id).getD []) ∧ Kept (fun _ => False) w w' := by
  refine (rkey_any y R M id w h).mono ?_
  rintro e w' ⟨⟨ov, k, rfl, hB, hm⟩ | ⟨rfl, hno⟩, hk⟩
  · have hm' := hR.pm.mem_iff.1 hm
    rw [keyF_some hR hm']
    exact ⟨ov, rfl, hB, hk⟩
  · rw [keyF_none fun z hz => hno z (hR.pm.mem_iff.2 hz)]
    exact ⟨_, rfl, By.nil _, hk⟩

end Go.Proofs.YtahabogjfcdjkaaGreat
