import Derived.Test.YtahabogjfcdjkaaGreatUp
import Derived.Test.YtahabogjfcdjkaaGreatIn

set_option linter.unusedSimpArgs false
set_option linter.unusedVariables false
namespace Go.Proofs.YtahabogjfcdjkaaGreat
open Go.RowKit

/-! ### keys and values of a wrong length, wherever they lie -/
set_option maxHeartbeats 400000 in
theorem asks_len (x : Loc) (S : MS) (L : List Rg) (A : Option Addr) (n c : Nat) (w : World) (h : Mp w x S L) :
    Calls Tryz.prog 58 #[.pointer (some ⟨x.q, 0, none⟩), .slice A n c] w fun e w' => e = .returned (.int .i64 (asksC S.d n)) ∧ w = w' := by
  have hb := h.blk.cell
  simp only [MS.cells] at hb
  unfold asksC
  by_cases h3 : S.d.kind = 3
  · rw [h3] at hb
    rw [if_pos h3]
    clear h3
    go_enter Tryz.func58, Tryz.ntmps58
    go_wp2
    go_ret
    exact ⟨rfl, rfl⟩
  · rw [if_neg h3]
    have e3 : (S.d.kind == 3) = false := by simpa using h3
    clear h3
    by_cases h4 : (n : Int) = S.d.key
    · rw [if_pos h4]
      have e4 : ((n : Int) != S.d.key) = false := by simpa using h4
      clear h4
      go_enter Tryz.func58, Tryz.ntmps58
      go_wp2
      go_ret
      exact ⟨rfl, rfl⟩
    · rw [if_neg h4]
      have e4 : ((n : Int) != S.d.key) = true := by simpa using h4
      clear h4
      go_enter Tryz.func58, Tryz.ntmps58
      go_wp2
      go_ret
      exact ⟨rfl, rfl⟩

set_option maxHeartbeats 400000 in
theorem lookup_len (x : Loc) (S : MS) (L : List Rg) (A : Option Addr) (n c : Nat) (w : World) (h : Mp w x S L) (ha : asksC S.d n ≠ 0) :
    Calls Tryz.prog 33 #[.pointer (some ⟨x.q, 0, none⟩), .slice A n c] w fun e w' => e = .returned (.tuple #[.int .i64 0, .bool false, .int .i64 (asksC S.d n)]) ∧ w = w' := by
  have hask := asks_len x S L A n c w h
  have hne : (asksC S.d n != 0) = true := by simpa using ha
  generalize asksC S.d n = c0 at *
  have HA := Lib.hid hask
  clear hask ha
  go_enter Tryz.func33, Tryz.ntmps33
  go_wp2_with (go_at_call 58; refine HA.out.mono ?_; rintro e w1 ⟨rfl, rfl⟩)
  go_ret3
  exact ⟨rfl, rfl⟩

set_option maxHeartbeats 1000000 in
theorem update_klen (x : Loc) (S : MS) (L : List Rg) (A : Option Addr) (n c : Nat) (bv : Value) (flags : Int) (w : World) (h : Mp w x S L) (ha : asksC S.d n ≠ 0) :
    Calls Tryz.prog 16 #[.pointer (some ⟨x.q, 0, none⟩), .slice A n c, bv, .int .u64 flags] w fun e w' => e = .returned (.int .i64 (asksC S.d n)) ∧ w = w' := by
  have hlk := lookup_len x S L A n c w h ha
  have hne : (asksC S.d n != 0) = true := by simpa using ha
  generalize asksC S.d n = c0 at *
  have HLK := Lib.hid hlk
  clear hlk ha
  go_enter Tryz.func16, Tryz.ntmps16
  go_wp2_with (go_at_call 33; refine HLK.out.mono ?_; rintro e w1 ⟨rfl, rfl⟩)
  go_ret
  exact ⟨rfl, rfl⟩

set_option maxHeartbeats 1000000 in
theorem update_vlen (x : Loc) (S : MS) (L : List Rg) (kv : Value) (A : Option Addr) (n c : Nat) (k : List UInt8) (flags : Int) (w : World) (h : Mp w x S L) (hk : By w kv k) (ha : asksC S.d k.length = 0) (hl : (n : Int) ≠ S.d.value) :
    Calls Tryz.prog 16 #[.pointer (some ⟨x.q, 0, none⟩), kv, .slice A n c, .int .u64 flags] w fun e w' => e = .returned (.int .i64 91) ∧ w' = w.drew := by
  have hb0 := h.blk.cell
  simp only [MS.cells] at hb0
  have hlk := lookup_ok x S L kv k w h hk ha
  have hne : ((n : Int) != S.d.value) = true := by simpa using hl
  have HLK := Lib.hid hlk
  clear hlk ha hl
  generalize (lookS S.ent k).getD 0 = a0 at *
  generalize (lookS S.ent k).isSome = a1 at *
  go_enter Tryz.func16, Tryz.ntmps16
  go_wp2_with (go_at_call 33; refine HLK.out.mono ?_; rintro e w1 ⟨rfl, rfl⟩)
  go_ret
  exact ⟨rfl, rfl⟩

set_option maxHeartbeats 1000000 in
theorem delete_klen (x : Loc) (S : MS) (L : List Rg) (A : Option Addr) (n c : Nat) (w : World) (h : Mp w x S L) (ha : asksC S.d n ≠ 0) :
    Calls Tryz.prog 24 #[.pointer (some ⟨x.q, 0, none⟩), .slice A n c] w fun e w' => e = .returned (.tuple #[.int .i64 0, .int .i64 (asksC S.d n)]) ∧ w = w' := by
  have hlk := lookup_len x S L A n c w h ha
  have hne : (asksC S.d n != 0) = true := by simpa using ha
  generalize asksC S.d n = c0 at *
  have HLK := Lib.hid hlk
  clear hlk ha
  go_enter Tryz.func24, Tryz.ntmps24
  go_wp2_with (go_at_call 33; refine HLK.out.mono ?_; rintro e w1 ⟨rfl, rfl⟩)
  go_ret2
  exact ⟨rfl, rfl⟩

/-! ### steps that came in -/
structure Hs where
  what : Int
  n : Int
  k : List UInt8
  v : List UInt8
  flags : Int

/-- a row of steps that came in -/
def InHs (w : World) (a : Option Addr) (ll : List Hs) : Prop := ∀ (i : Nat) (s : Hs), ll[i]? = some s → ∃ g off ka kc va vc, a = some ⟨g, off, none⟩ ∧ g < w.heap.size ∧
  w.cell? ⟨g, off + i * 5, none⟩ = some (.int .i64 s.what) ∧ w.cell? ⟨g, off + i * 5 + 1, none⟩ = some (.int .i64 s.n) ∧ w.cell? ⟨g, off + i * 5 + 2, none⟩ = some (.slice ka s.k.length kc) ∧ w.cell? ⟨g, off + i * 5 + 3, none⟩ = some (.slice va s.v.length vc) ∧ w.cell? ⟨g, off + i * 5 + 4, none⟩ = some (.int .u64 s.flags) ∧
  s.k.length ≤ kc ∧ s.v.length ≤ vc ∧ InB w ka s.k ∧ InB w va s.v
theorem InHs.kept {w w' : World} {a : Option Addr} {ll : List Hs} (h : InHs w a ll) (hk : Kept (fun _ => False) w w') : InHs w' a ll := fun i s hl => by
  obtain ⟨g, off, ka, kc, va, vc, ha, hg, c0, c1, c2, c3, c4, l1, l2, h1, h2⟩ := h i s hl
  have hc : ∀ j, w'.cell? ⟨g, j, none⟩ = w.cell? ⟨g, j, none⟩ := fun j => hk.cell (p := ⟨g, j, none⟩) hg (fun h => h)
  exact ⟨g, off, ka, kc, va, vc, ha, Nat.lt_of_lt_of_le hg hk.size, by rw [hc]; exact c0, by rw [hc]; exact c1, by rw [hc]; exact c2, by rw [hc]; exact c3, by rw [hc]; exact c4, l1, l2, h1.kept hk, h2.kept hk⟩
theorem InB.by2 {w : World} {a : Option Addr} {l : List UInt8} (h : InB w a l) (hp : 0 < l.length) {c : Nat} (hc : l.length ≤ c) : By w (.slice a l.length c) l ∧ ∀ g, (Value.slice a l.length c).ownBlock = some g → g < w.heap.size := by
  obtain ⟨g, off, rfl, hg, _⟩ := h 0 l[0] (List.getElem?_eq_getElem hp)
  refine ⟨.inr ⟨g, off, c, rfl, hg, hc, fun j u hu => ?_⟩, fun k hk => ?_⟩
  · simp only [bcells, List.getElem?_map] at hu
    cases hl : l[j]? with
    | none => rw [hl] at hu; cases hu
    | some b =>
      rw [hl] at hu
      obtain ⟨g', off', ha, _, hc'⟩ := h j b hl
      simp only [Option.some.injEq, Addr.mk.injEq, and_true] at ha
      obtain ⟨rfl, rfl⟩ := ha
      rw [hc']
      exact hu
  · simp only [Value.ownBlock, Option.some.injEq] at hk
    omega
theorem InB.conv {w : World} {a : Option Addr} {l : List UInt8} (h : InB w a l) {c : Nat} (hc : l.length ≤ c) : (convert 39 9 (.slice a l.length c)).run Tryz.prog w = .ok (sV l) w := by
  rcases Nat.eq_zero_or_pos l.length with h0 | h0
  · obtain rfl := List.eq_nil_of_length_eq_zero h0
    cases a with
    | none => exact Lib.run_convert_nil_bytes w 39 9 5 c Tryz.underlying39 Tryz.underlying5 Tryz.underlying9
    | some ad => exact run_convert_bytes_back w 39 9 5 ad c [] Tryz.underlying39 Tryz.underlying5 Tryz.underlying9 (fun j hj => absurd hj (by simp))
  · exact ((h.by2 h0 hc).1).conv Tryz.underlying39 Tryz.underlying5 Tryz.underlying9

def fewB (ll : List Hs) : Bool := ll.all (fun s => decide (s.k.length ≤ 100) && decide (s.v.length ≤ 400)) && decide (ll.length ≤ 50)

set_option maxHeartbeats 1000000 in
theorem few_any (a : Option Addr) (c : Nat) (ll : List Hs) (w : World) (h : InHs w a ll) (hm : ll.length ≤ maxLen) :
    Calls Tryz.prog 5 #[.slice a ll.length c] w fun e w' => e = .returned (.bool (fewB ll)) ∧ w' = w := by
  unfold maxLen at hm
  go_enter Tryz.func5, Tryz.ntmps5
  go_wp2_with fail
  go_loopw [3] (fun iv wr => ∃ i : Nat, iv = .int .i64 i ∧ i ≤ ll.length ∧ (ll.take i).all (fun s => decide (s.k.length ≤ 100) && decide (s.v.length ≤ 400)) = true ∧ wr = w) (fun iv _ => ll.length - (intOf iv).toNat)
  case atStart => exact ⟨0, rfl, Nat.zero_le _, by simp, rfl⟩
  case round =>
    obtain ⟨i, rfl, hi, hall, rfl⟩ := hrel
    by_cases hlt : i < ll.length
    case neg =>
      obtain rfl : i = ll.length := by omega
      rw [List.take_length] at hall
      by_cases h50 : ll.length ≤ 50
      · go_wp2_with fail
        go_ret
        unfold fewB
        rw [hall]
        simp
        omega
      · go_wp2_with fail
        go_ret
        unfold fewB
        rw [hall]
        simp
        omega
    case pos =>
      obtain ⟨s, hs⟩ : ∃ s, ll[i]? = some s := ⟨_, List.getElem?_eq_getElem hlt⟩
      obtain ⟨g, off, ka, kc, va, vc, rfl, hg, c0, c1, c2, c3, c4, l1, l2, h1, h2⟩ := h i s hs
      have htk : ll.take (i + 1) = ll.take i ++ [s] := by rw [List.take_add_one, hs]; rfl
      by_cases hk : 100 < s.k.length
      · go_wp2_with fail
        go_ret
        unfold fewB
        have : (ll.all fun s => decide (s.k.length ≤ 100) && decide (s.v.length ≤ 400)) = false := by
          rw [List.all_eq_false]
          exact ⟨s, List.mem_of_getElem? hs, by simp; omega⟩
        rw [this]
        simp
      · by_cases hv : 400 < s.v.length
        · go_wp2_with fail
          go_ret
          unfold fewB
          have : (ll.all fun s => decide (s.k.length ≤ 100) && decide (s.v.length ≤ 400)) = false := by
            rw [List.all_eq_false]
            exact ⟨s, List.mem_of_getElem? hs, by simp; omega⟩
          rw [this]
          simp
        · go_wp2_with fail
          go_roundw
          case rel => exact ⟨i + 1, by go_num, by omega, by rw [htk, List.all_append, hall]; simp; omega, trivial⟩
          case measure => simp [intOf]; omega

end Go.Proofs.YtahabogjfcdjkaaGreat
