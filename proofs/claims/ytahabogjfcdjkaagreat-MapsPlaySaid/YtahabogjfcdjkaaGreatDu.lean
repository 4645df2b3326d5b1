import Derived.Test.YtahabogjfcdjkaaGreatDt
set_option linter.unusedSimpArgs false
set_option linter.unusedVariables false
namespace Go.Proofs.YtahabogjfcdjkaaGreat
open Go.RowKit

theorem does_any (x : Loc) (y : RLoc) (S R : MS) (L M : List Rg) (s : Hs) (kv0 vv0 : Value) (w : World) (hT0 : Tl w w x y S R L M (fun n => fpMp x L n ∨ fpR y M n)) (hR0 : Rel S R (L.map Rg.see)) (hM0 : M.map Rg.see = L.map Rg.see)
    (hKr0 : Raw w kv0 s.k) (hVr0 : Raw w vv0 s.v) (hkx : 0 < s.k.length → ∀ g, kv0.ownBlock = some g → ¬ (fpMp x L g ∨ fpR y M g)) (hvx : 0 < s.v.length → ∀ g, vv0.ownBlock = some g → ¬ (fpMp x L g ∨ fpR y M g)) (hkl : s.k.length ≤ 100) (hvl : s.v.length ≤ 400)
    (hfl : 0 ≤ s.flags ∧ s.flags < 18446744073709551616) (hLl : L.length < 999) :
    Calls Tryz.prog 10 #[.pointer (some ⟨x.q, 0, none⟩), .pointer (some ⟨y.q, 0, none⟩), .agg (stepC s kv0 vv0)] w fun e w' => e = .returned (.bool true) ∧ After w x y L M w' := by
  by_cases h0 : s.what = 0
  · exact does_upd0 x y S R L M s kv0 vv0 w hT0 hR0 hM0 hKr0 hVr0 hkx hvx hkl hvl hfl hLl h0
  by_cases h1 : s.what = 1
  · exact does_upd1 x y S R L M s kv0 vv0 w hT0 hR0 hM0 hKr0 hVr0 hkx hvx hkl hvl hfl hLl h1
  by_cases h2 : s.what = 2
  · exact does_upd2 x y S R L M s kv0 vv0 w hT0 hR0 hM0 hKr0 hVr0 hkx hvx hkl hvl hfl hLl h2
  by_cases h3 : s.what = 3
  · exact does_del x y S R L M s kv0 vv0 w hT0 hR0 hM0 hKr0 hVr0 hkx hvx hkl hvl hfl hLl h3
  by_cases h4 : s.what = 4
  · exact does_set x y S R L M s kv0 vv0 w hT0 hR0 hM0 hKr0 hVr0 hkx hvx hkl hvl hfl hLl h4
  by_cases h5 : s.what = 5
  · exact does_prog x y S R L M s kv0 vv0 w hT0 hR0 hM0 hKr0 hVr0 hkx hvx hkl hvl hfl hLl h5
  · exact does_key x y S R L M s kv0 vv0 w hT0 hR0 hM0 hKr0 hVr0 hkx hvx hkl hvl hfl hLl ⟨h0, h1, h2, h3, h4, h5⟩

/-! ### a new map -/
def S0 (d : Df) : MS := if d.kind = 1 then ⟨d, entA 0 d.entries.toNat, []⟩ else if d.kind = 2 then ⟨d, [], []⟩ else ⟨d, [], List.replicate d.entries.toNat (-1)⟩
def C0 (d : Df) : List See := if d.kind = 1 then List.replicate d.entries.toNat (List.replicate d.value.toNat 0, true, ((hidN d.timer : Nat) : Int), false) else []
theorem S0_d (d : Df) : (S0 d).d = d := by unfold S0; split <;> (try split) <;> rfl
structure Good (d : Df) : Prop where
  k : d.kind = 1 ∨ d.kind = 2 ∨ d.kind = 3
  en : 1 ≤ d.entries ∧ d.entries ≤ 64
  ok : d.kind ≠ 3 → 1 ≤ d.key ∧ 1 ≤ d.value ∧ d.value ≤ 256 ∧ (d.timer = true → 16 ≤ d.value)
theorem good_of {d : Df} (h : defB { d with type := 0 } = true) : Good d := by
  unfold defB at h
  simp only at h
  by_cases h1 : d.kind = 1
  · rw [if_pos h1] at h
    unfold kindB1 valB inB at h
    simp at h
    refine ⟨.inl h1, by omega, fun _ => ⟨by omega, by omega, by omega, fun ht => ?_⟩⟩
    rcases h.2.1.2 with h' | h'
    · rw [h'] at ht; cases ht
    · omega
  rw [if_neg h1] at h
  by_cases h2 : d.kind = 2
  · rw [if_pos h2] at h
    unfold kindB2 valB inB at h
    simp at h
    refine ⟨.inr (.inl h2), by omega, fun _ => ⟨by omega, by omega, by omega, fun ht => ?_⟩⟩
    rcases h.2.1.2 with h' | h'
    · rw [h'] at ht; cases ht
    · omega
  rw [if_neg h2] at h
  by_cases h3 : d.kind = 3
  · rw [if_pos h3] at h
    unfold kindB3 inB at h
    simp at h
    exact ⟨.inr (.inr h3), by omega, fun hn => absurd h3 hn⟩
  · rw [if_neg h3] at h
    cases h
theorem cb_leB {i j : Nat} (hij : i < j) (hj : j < 256) : Lib.compareBytes (leB i 4) (leB j 4) < 0 := by
  have h : (UInt8.ofNat i) < (UInt8.ofNat j) := by
    rw [UInt8.lt_iff_toNat_lt, UInt8.toNat_ofNat', UInt8.toNat_ofNat']
    omega
  show Lib.compareBytes (UInt8.ofNat i :: leB (i / 256) 3) (UInt8.ofNat j :: leB (j / 256) 3) < 0
  unfold Lib.compareBytes
  rw [if_pos h]
  decide
theorem rel0 {d : Df} (h : Good d) : Rel (S0 d) (S0 d) (C0 d) := by
  have hok : d.kind ≠ 3 → 1 ≤ d.key ∧ ∃ vn : Nat, d.value = vn ∧ 0 < vn ∧ vn ≤ 256 ∧ hidN d.timer ≤ vn := fun h3 => by
    obtain ⟨a, b, c, e⟩ := h.ok h3
    refine ⟨a, d.value.toNat, by omega, by omega, by omega, ?_⟩
    unfold hidN
    split
    · rename_i ht; have := e ht; omega
    · omega
  obtain ⟨hk, ⟨e1, e2⟩, _⟩ := h
  unfold S0 C0
  by_cases h1 : d.kind = 1
  · rw [if_pos h1, if_pos h1]
    refine ⟨rfl, rfl, List.Perm.refl _, ?_, ?_, ?_, by simp [entA]; omega, e2, hok, by simp, fun h3 => by rw [h1] at h3; exact absurd h3 (by decide)⟩
    · unfold entA
      rw [List.map_map, List.pairwise_map]
      refine List.pairwise_lt_range.imp_of_mem fun {a b} ha hb hab => ?_
      have := List.mem_range.1 hb
      exact cb_leB hab (by omega)
    · unfold entA
      rw [List.map_map]
      unfold List.Nodup
      rw [List.pairwise_map]
      refine List.pairwise_lt_range.imp fun {a b} hab e => ?_
      simp only [Function.comp] at e
      omega
    · intro y hy
      unfold entA at hy
      obtain ⟨j, hj, rfl⟩ := List.mem_map.1 hy
      have := List.mem_range.1 hj
      simp only [List.length_replicate]
      omega
  · rw [if_neg h1, if_neg h1]
    by_cases h2 : d.kind = 2
    · rw [if_pos h2]
      exact ⟨rfl, rfl, List.Perm.refl _, by simp, by simp, by simp, by simp; omega, e2, hok, by simp, fun _ => rfl⟩
    · rw [if_neg h2]
      exact ⟨rfl, rfl, List.Perm.refl _, by simp, by simp, by simp, by simp; omega, e2, hok, by simp; omega, fun _ => rfl⟩
theorem gr_see {L1 : List Rg} {vn hn n : Nat} (h : Gr [] L1 vn hn n) : L1.map Rg.see = List.replicate n (List.replicate vn 0, true, ((hn : Nat) : Int), false) := by
  have hl := h.len
  simp only [List.length_nil, Nat.zero_add] at hl
  apply List.ext_getElem?
  intro j
  rw [List.getElem?_map, List.getElem?_replicate]
  by_cases hj : j < n
  · obtain ⟨r, h1, h2, h3, h4, h5⟩ := h.new j hj
    simp only [List.length_nil, Nat.zero_add] at h1
    rw [h1, if_pos hj]
    simp only [Option.map_some, Rg.see, h2, h3, h4, h5]
  · rw [if_neg hj, List.getElem?_eq_none (by omega)]
    rfl
theorem pnew_ok (d : Df) (mp : Nat) (w : World) (h : IsMem w mp (.slice none 0 0) []) (hd : defB { d with type := 0 } = true) :
    Calls Tryz.prog 8 #[.agg d.cells, .pointer (some ⟨mp, 0, none⟩)] w fun e w' => ∃ (x : Loc) (L : List Rg), e = .returned (.tuple #[.pointer (some ⟨x.q, 0, none⟩), .int .i64 0]) ∧ x.mp = mp ∧ Mp w' x (S0 d) L ∧ L.map Rg.see = C0 d ∧ (∀ n, fpMp x L n → n = mp ∨ w.heap.size ≤ n) ∧ Kept (fun n => n = mp) w w' := by
  have hbl : ∀ n, n ∈ blM mp (.slice none 0 0) [] → n = mp := fun n hn => by simpa [blM, ob, Value.ownBlock] using hn
  have hg := good_of hd
  unfold S0 C0
  rcases hg.k with h1 | h2 | h3
  · rw [if_pos h1, if_pos h1]
    refine (new_array d mp _ [] w h (by simp) h1 hd).mono ?_
    rintro e w' ⟨q, m, v', L', rfl, hM, hG, hf, hk⟩
    exact ⟨⟨q, mp, m, .slice none 0 0, v'⟩, L', rfl, rfl, hM, gr_see hG, fun n hn => (hf n hn).imp (hbl n) id, hk.mono (fun n _ e => hbl n e)⟩
  · have h1 : ¬ d.kind = 1 := by rw [h2]; decide
    rw [if_neg h1, if_neg h1, if_pos h2]
    refine (new_hash d mp _ [] w h h2 hd).mono ?_
    rintro e w' ⟨q, m, rfl, hM, hq, hm, hk⟩
    refine ⟨⟨q, mp, m, .slice none 0 0, .slice none 0 0⟩, [], rfl, rfl, hM, rfl, fun n hn => ?_, hk.mono (fun n _ e => e.elim)⟩
    rcases hn with e | e | e | e
    · right; rw [e]; exact hq
    · right; rw [e]; exact hm
    · simp [Value.ownBlock] at e
    · exact .inl (hbl n e)
  · have h1 : ¬ d.kind = 1 := by rw [h3]; decide
    have h2 : ¬ d.kind = 2 := by rw [h3]; decide
    rw [if_neg h1, if_neg h1, if_neg h2]
    refine (new_progs d mp _ [] w h h3 hd).mono ?_
    rintro e w' ⟨q, m, pv, rfl, hM, hq, hm, hp, hk⟩
    refine ⟨⟨q, mp, m, pv, .slice none 0 0⟩, [], rfl, rfl, hM, rfl, fun n hn => ?_, hk.mono (fun n _ e => e.elim)⟩
    rcases hn with e | e | e | e
    · right; rw [e]; exact hq
    · right; rw [e]; exact hm
    · exact .inr (hp n e)
    · exact .inl (hbl n e)
theorem rnew_ok (d : Df) (mp : Nat) (w : World) (h : RMem w mp (.slice none 0 0) []) (hd : defB { d with type := 0 } = true) :
    Calls Tryz.prog 9 #[.agg d.cells, .pointer (some ⟨mp, 0, none⟩)] w fun e w' => ∃ (y : RLoc) (L : List Rg), e = .returned (.tuple #[.pointer (some ⟨y.q, 0, none⟩), .int .i64 0]) ∧ y.mp = mp ∧ RMp w' y (S0 d) L ∧ L.map Rg.see = C0 d ∧ (∀ n, fpR y L n → n = mp ∨ w.heap.size ≤ n) ∧ Kept (fun n => n = mp) w w' := by
  have hbl : ∀ n, n ∈ blM mp (.slice none 0 0) [] → n = mp := fun n hn => by simpa [blM, ob, Value.ownBlock] using hn
  have hg := good_of hd
  unfold S0 C0
  rcases hg.k with h1 | h2 | h3
  · rw [if_pos h1, if_pos h1]
    refine (rnew_array d mp _ [] w h (by simp) h1 hd).mono ?_
    rintro e w' ⟨q, v', lv, L', rfl, hM, hG, hf, hk⟩
    exact ⟨⟨q, mp, v', lv, .slice none 0 0⟩, L', rfl, rfl, hM, gr_see hG, fun n hn => (hf n hn).imp (hbl n) id, hk.mono (fun n _ e => hbl n e)⟩
  · have h1 : ¬ d.kind = 1 := by rw [h2]; decide
    rw [if_neg h1, if_neg h1, if_pos h2]
    refine (rnew_hash d mp _ [] w h h2 hd).mono ?_
    rintro e w' ⟨q, rfl, hM, hq, hk⟩
    refine ⟨⟨q, mp, .slice none 0 0, .slice none 0 0, .slice none 0 0⟩, [], rfl, rfl, hM, rfl, fun n hn => ?_, hk.mono (fun n _ e => e.elim)⟩
    rcases hn with e | e | e | e
    · right; rw [e]; exact hq
    · simp [Value.ownBlock] at e
    · simp [Value.ownBlock] at e
    · exact .inl (hbl n e)
  · have h1 : ¬ d.kind = 1 := by rw [h3]; decide
    have h2 : ¬ d.kind = 2 := by rw [h3]; decide
    rw [if_neg h1, if_neg h1, if_neg h2]
    refine (rnew_progs d mp _ [] w h h3 hd).mono ?_
    rintro e w' ⟨q, pv, rfl, hM, hq, hp, hk⟩
    refine ⟨⟨q, mp, .slice none 0 0, .slice none 0 0, pv⟩, [], rfl, rfl, hM, rfl, fun n hn => ?_, hk.mono (fun n _ e => e.elim)⟩
    rcases hn with e | e | e | e
    · right; rw [e]; exact hq
    · simp [Value.ownBlock] at e
    · exact .inr (hp n e)
    · exact .inl (hbl n e)

end Go.Proofs.YtahabogjfcdjkaaGreat
