import Derived.Test.YtlkgmcacbfoijaaGreatZah
import Derived.Shelf.Small.Bits
import Derived.Shelf.Small.Wraps
import Derived.Shelf.Strconv.Itoa0
import Derived.Shelf.Sort.Plain
import Derived.Ground.Names2Prog
import Derived.Shelf.Slices.CompactI
import Derived.Shelf.Slices.SearchI
import Derived.Shelf.Slices.Cells
import Derived.Shelf.Slices.In.SortNone
import Derived.Test.YtlkgmcacbfoijaaGreatProg
import Derived.Test.YtlkgmcacbfoijaaGreatZag
set_option linter.unusedSimpArgs false
set_option linter.unusedVariables false
namespace Go.Proofs.YtlkgmcacbfoijaaGreat
open Go.RowKit

/-! ### slots -/
def slotC (l : List In) (i : Nat) : Int := match l[i]?, (secL l)[i]? with
  | some x, some false => wrongC l i x
  | _, _ => 0
def scanC (l : List In) : Nat → Nat → Int
  | _, 0 => 0
  | i, n + 1 => if slotC l i = 0 then scanC l (i + 1) n else slotC l i
def slotsC (l : List In) : Int := if l.length < 1 ∨ 4096 < l.length then 10 else scanC l 0 l.length
theorem Bls.at_ {w : World} {v : Value} {B : List Bool} (h : Bls w v B) {i : Nat} {b : Bool} (hb : B[i]? = some b) : ∃ g c, v = .slice (some ⟨g, 0, none⟩) B.length c ∧ g < w.heap.size ∧ w.cell? ⟨g, i, none⟩ = some (.bool b) := by
  have hi := (List.getElem?_eq_some_iff.1 hb).1
  obtain ⟨g, c, rfl, hc, hg⟩ := Sl.some_ h (by rw [List.length_map]; omega)
  rw [List.length_map] at *
  exact ⟨g, c, rfl, hg, Bls.cell h hb⟩
set_option maxHeartbeats 4000000 in
set_option maxRecDepth 100000 in
theorem slots_any (l : List In) (a : Option Addr) (c : Nat) (sv : Value) (w : World) (h : Ins w (.slice a l.length c) l) (hok : InsOk l) (hS : Bls w sv (secL l)) :
    Calls Tryz.prog 43 #[.slice a l.length c, sv] w fun e w' => (∃ p : Int, e = .returned (.tuple #[.int .i64 p, .int .i64 (slotsC l)])) ∧ Kept (fun _ => False) w w' := by
  have hlen := hok.len
  have HWR := Lib.hid (fun i x W hx hI hB => wrong_any l a c i x sv W hI hok hx hB)
  obtain ⟨r, hr⟩ : ∃ r, slotsC l = r := ⟨_, rfl⟩
  rw [hr]
  unfold slotsC at hr
  by_cases h1 : l.length < 1
  · rw [if_pos (.inl h1)] at hr
    subst hr
    have h1d : decide ((l.length : Int) < 1) = true := decide_eq_true (by omega)
    have h1e : decide (l.length < 1) = true := decide_eq_true (by omega)
    clear h1
    go_enter Tryz.func43, Tryz.ntmps43
    go_wp2_with fail
    go_ret2
    exact ⟨⟨_, rfl⟩, Kept.refl _ w⟩
  by_cases h2 : 4096 < l.length
  · rw [if_pos (.inr h2)] at hr
    subst hr
    go_enter Tryz.func43, Tryz.ntmps43
    go_wp2_with fail
    go_ret2
    exact ⟨⟨_, rfl⟩, Kept.refl _ w⟩
  rw [if_neg (by omega)] at hr
  have HR := Lib.hid hr
  clear hr
  go_enter Tryz.func43, Tryz.ntmps43
  go_wp2_with fail
  go_loopw [18] (fun iv wr => ∃ i n : Nat, iv = .int .i64 i ∧ i + n = l.length ∧ scanC l i n = r ∧ Kept (fun _ => False) w wr) (fun iv _ => l.length - (intOf iv).toNat)
  case atStart => exact ⟨0, l.length, rfl, by omega, HR.out, Kept.refl _ _⟩
  case round =>
    obtain ⟨i, n, rfl, hin, hsc, hK⟩ := hrel
    cases n with
    | zero =>
      obtain rfl : i = l.length := by omega
      simp only [scanC] at hsc
      subst hsc
      go_wp2_with fail
      go_ret2
      exact ⟨⟨_, rfl⟩, hK⟩
    | succ n =>
      have hlt : i < l.length := by omega
      obtain ⟨x, hx⟩ : ∃ x, l[i]? = some x := ⟨_, List.getElem?_eq_getElem hlt⟩
      obtain ⟨b, hb⟩ : ∃ b, (secL l)[i]? = some b := ⟨_, List.getElem?_eq_getElem (by rw [sec_len]; omega)⟩
      have hS2 := Sl.kept hK hS (fun _ _ h => h)
      obtain ⟨g, sc, hsv, hg, d0⟩ := Bls.at_ hS2 hb
      have hsc2 : (match some x, some b with | some x, some false => wrongC l i x | _, _ => 0) = slotC l i := by unfold slotC; rw [hx, hb]
      rw [sec_len] at hsv
      unfold scanC at hsc
      rw [← hsc2] at hsc
      have HX := Lib.hid hx
      have HI := Lib.hid (h.kept hK)
      have HS := Lib.hid hS2
      clear hx hb hsc2 hS2 h hS hok
      subst hsv
      cases b with
      | true =>
        simp only [if_true] at hsc
        have HSC := Lib.hid hsc
        clear hsc
        go_wp2_with fail
        go_roundw
        case rel => exact ⟨i + 1, n, by go_num, by omega, HSC.out, hK⟩
        case measure => simp [intOf]; omega
      | false =>
        simp only at hsc
        have HW := Lib.hid (HWR.out i x _ HX.out HI.out HS.out)
        generalize wrongC l i x = wc at *
        by_cases hz : wc = 0
        · rw [if_pos hz] at hsc
          subst hz
          have HSC := Lib.hid hsc
          clear hsc
          go_wp2_with fail
          refine HW.out.mono ?_
          rintro e w2 ⟨rfl, hk2⟩
          have hK2 := hK.trans hk2 (fun _ _ h => h)
          go_wp2_with fail
          go_roundw
          case rel => exact ⟨i + 1, n, by go_num, by omega, HSC.out, hK2⟩
          case measure => simp [intOf]; omega
        · rw [if_neg hz] at hsc
          subst hsc
          have hzd : (wc != 0) = true := by simpa using hz
          clear hz
          go_wp2_with fail
          refine HW.out.mono ?_
          rintro e w2 ⟨rfl, hk2⟩
          have hK2 := hK.trans hk2 (fun _ _ h => h)
          go_wp2_with fail
          go_ret2
          exact ⟨⟨_, rfl⟩, hK2⟩

end Go.Proofs.YtlkgmcacbfoijaaGreat

namespace Go.Proofs
open Go.Shelf
def Tryz.lays189_ren : Go.Shelf.Ren := ⟨fun | 189 => 40 | 125 => 66 | 257 => 65 | 128 => 99 | 129 => 100 | 294 => 90 | 295 => 91 | 296 => 92 | 297 => 93 | 298 => 94 | 299 => 95 | 216 => 96 | 300 => 97 | 301 => 98 | 328 => 115 | 329 => 116 | 330 => 117 | 331 => 118 | 332 => 119 | 215 => 120 | 343 => 123 | n => n, fun | 28 => 28 | 3 => 3 | 46 => 118 | 0 => 0 | 51 => 147 | 53 => 24 | 4 => 4 | 183 => 140 | 182 => 139 | 131 => 75 | 5 => 5 | 9 => 9 | 218 => 156 | 222 => 160 | 228 => 168 | 229 => 79 | n => n, fun | n => n⟩
theorem Tryz.lays189 : Go.Proofs.Lays.n189 Tryz.prog Tryz.lays189_ren := {
  mixed := by kernel_rfl
  f125 := Tryz.func66.trans (congrArg some (by kernel_rfl))
  f128 := Tryz.func99.trans (congrArg some (by kernel_rfl))
  f129 := Tryz.func100.trans (congrArg some (by kernel_rfl))
  f189 := Tryz.func40.trans (congrArg some (by kernel_rfl))
  f215 := Tryz.func120.trans (congrArg some (by kernel_rfl))
  f216 := Tryz.func96.trans (congrArg some (by kernel_rfl))
  f257 := Tryz.func65.trans (congrArg some (by kernel_rfl))
  f294 := Tryz.func90.trans (congrArg some (by kernel_rfl))
  f295 := Tryz.func91.trans (congrArg some (by kernel_rfl))
  f296 := Tryz.func92.trans (congrArg some (by kernel_rfl))
  f297 := Tryz.func93.trans (congrArg some (by kernel_rfl))
  f298 := Tryz.func94.trans (congrArg some (by kernel_rfl))
  f299 := Tryz.func95.trans (congrArg some (by kernel_rfl))
  f300 := Tryz.func97.trans (congrArg some (by kernel_rfl))
  f301 := Tryz.func98.trans (congrArg some (by kernel_rfl))
  f328 := Tryz.func115.trans (congrArg some (by kernel_rfl))
  f329 := Tryz.func116.trans (congrArg some (by kernel_rfl))
  f330 := Tryz.func117.trans (congrArg some (by kernel_rfl))
  f331 := Tryz.func118.trans (congrArg some (by kernel_rfl))
  f332 := Tryz.func119.trans (congrArg some (by kernel_rfl))
  f343 := Tryz.func123.trans (congrArg some (by kernel_rfl))
  t0 := Tryz.underlying0
  a0 := Tryz.isAgg0
  z0 := Tryz.sizeOf0
  v0 := Tryz.zeroValue0
  t3 := Tryz.underlying3
  a3 := Tryz.isAgg3
  z3 := Tryz.sizeOf3
  v3 := Tryz.zeroValue3
  t4 := Tryz.underlying4
  a4 := Tryz.isAgg4
  z4 := Tryz.sizeOf4
  v4 := Tryz.zeroValue4
  t5 := Tryz.underlying5
  a5 := Tryz.isAgg5
  z5 := Tryz.sizeOf5
  v5 := Tryz.zeroValue5
  t9 := Tryz.underlying9
  a9 := Tryz.isAgg9
  z9 := Tryz.sizeOf9
  v9 := Tryz.zeroValue9
  t28 := Tryz.underlying28
  a28 := Tryz.isAgg28
  z28 := Tryz.sizeOf28
  v28 := Tryz.zeroValue28
  t46 := Tryz.underlying118
  a46 := Tryz.isAgg118
  z46 := Tryz.sizeOf118
  v46 := Tryz.zeroValue118
  t51 := Tryz.underlying147
  a51 := Tryz.isAgg147
  z51 := Tryz.sizeOf147
  v51 := Tryz.zeroValue147
  t53 := Tryz.underlying24
  a53 := Tryz.isAgg24
  z53 := Tryz.sizeOf24
  v53 := Tryz.zeroValue24
  t131 := Tryz.underlying75
  a131 := Tryz.isAgg75
  z131 := Tryz.sizeOf75
  v131 := Tryz.zeroValue75
  t182 := Tryz.underlying139
  a182 := Tryz.isAgg139
  z182 := Tryz.sizeOf139
  v182 := Tryz.zeroValue139
  t183 := Tryz.underlying140
  a183 := Tryz.isAgg140
  z183 := Tryz.sizeOf140
  v183 := Tryz.zeroValue140
  t218 := Tryz.underlying156
  a218 := Tryz.isAgg156
  z218 := Tryz.sizeOf156
  v218 := Tryz.zeroValue156
  t222 := Tryz.underlying160
  a222 := Tryz.isAgg160
  z222 := Tryz.sizeOf160
  v222 := Tryz.zeroValue160
  t228 := Tryz.underlying168
  a228 := Tryz.isAgg168
  z228 := Tryz.sizeOf168
  v228 := Tryz.zeroValue168
  t229 := Tryz.underlying79
  a229 := Tryz.isAgg79
  z229 := Tryz.sizeOf79
  v229 := Tryz.zeroValue79 }
open Go.Sort Go.RowKit in
theorem Tryz.slices_Sort_int (blk off cap : Nat) (zs : List Int) (w : World) (hH : Holds (Value.int .i64) w blk off zs.toArray) (hblk : blk < w.heap.size) (hsz : zs.length < 4611686018427387904) :
    Calls Tryz.prog 40 #[.slice (some ⟨blk, off, none⟩) zs.length cap] w fun e w' =>
      e = .returned (.tuple #[]) ∧ ∃ n os, w' = grow (putRow (Value.int .i64) (Sort.ahead w n) blk off (zs.mergeSort fun x y => decide (x ≤ y)).toArray) os := Any.slices_Sort_int Tryz.lays189 blk off cap zs w hH hblk hsz
def Tryz.laysNm220_ren : Go.Shelf.Ren := ⟨fun | 20 => 71 | n => n, fun | 22 => 28 | 3 => 3 | 4 => 4 | 0 => 0 | n => n, fun | n => n⟩
theorem Tryz.laysNm220 : Go.Proofs.Lays2.n20 Tryz.prog Tryz.laysNm220_ren := {
  mixed := by kernel_rfl
  f20 := Tryz.func71.trans (congrArg some (by kernel_rfl))
  t0 := Tryz.underlying0
  a0 := Tryz.isAgg0
  z0 := Tryz.sizeOf0
  v0 := Tryz.zeroValue0
  t3 := Tryz.underlying3
  a3 := Tryz.isAgg3
  z3 := Tryz.sizeOf3
  v3 := Tryz.zeroValue3
  t4 := Tryz.underlying4
  a4 := Tryz.isAgg4
  z4 := Tryz.sizeOf4
  v4 := Tryz.zeroValue4
  t22 := Tryz.underlying28
  a22 := Tryz.isAgg28
  z22 := Tryz.sizeOf28
  v22 := Tryz.zeroValue28
  i3 := by kernel_rfl }
open Go.RowKit Go.Lib Go.Sort in
/-- slices.Compact at []int: "Compact replaces consecutive runs of equal elements with a single copy. This is like the uniq command found on Unix. Compact modifies the contents of the slice s and returns the modified slice, which may have a smaller length. Compact zeroes the elements between the new length and the original length. The result preserves the nilness of s.": IT RETURNS THE SLICE CUT TO 'Lib.compact zs'; ITS CELLS HOLD 'Lib.compact zs', THEN ZERO VALUES up to the old length; all else is as it was, but for the count of draws. IN THE WORDS OF slices.Sort's CONTRACT ('Holds', 'putRow'): so the everyday 'slices.Sort(xs); xs = slices.Compact(xs)' goes from the one contract to the other. It asks 'zs.length ≤ cap' (every slice's: the reslicing 's[:k]' looks at it). Length 0, nil: '.._empty'. (LAID: no walk: one application.) -/
theorem Tryz.slices_Compact_int (blk off cap : Nat) (zs : List Int) (w : World) (hH : Holds (Value.int .i64) w blk off zs.toArray) (hsz : zs.length ≤ 9223372036854775807) (hcap : zs.length ≤ cap) :
    Calls Tryz.prog 71 #[.slice (some ⟨blk, off, none⟩) zs.length cap] w fun e w' => e = .returned (.slice (some ⟨blk, off, none⟩) (Lib.compact zs).length cap) ∧ ∃ q, w' = putRow (Value.int .i64) (Sort.ahead w q) blk off (Lib.compact zs ++ List.replicate (zs.length - (Lib.compact zs).length) 0).toArray := Any.slices_Compact_int Tryz.laysNm220 blk off cap zs w hH hsz hcap
end Go.Proofs

set_option linter.unusedSimpArgs false
set_option linter.unusedVariables false
namespace Go.Proofs.YtlkgmcacbfoijaaGreat
open Go.RowKit Go.Sort

/-! ### slices.Sort and slices.Compact at rows of integers -/
section
variable {α : Type} [Inhabited α] {enc : α → Value} {w : World} {g m : Nat} {os : Array Obj} {d : Array α}
theorem heap_put {cur : Array Value} {e : TypeId} {fr : Nat × Nat} (hb : w.heap[g]? = some (.cells cur e fr)) :
    (grow (putRow enc (Sort.ahead w m) g 0 d) os).heap[g]? = some (.cells (putCells enc 0 d cur) e fr) := by
  have hg : g < w.heap.size := (Array.getElem?_eq_some_iff.1 hb).1
  rw [heap_grow_old _ _ (by simpa using hg)]
  simp [putRow, mapBlock, Sort.ahead, Array.getElem?_modify, hb, onCells]
theorem kept_put : Kept (fun k => k = g) w (grow (putRow enc (Sort.ahead w m) g 0 d) os) := by
  refine ⟨rfl, rfl, rfl, by simp, fun k hk hne => ?_⟩
  rw [heap_grow_old _ _ (by simpa using hk)]
  have : g ≠ k := fun e => hne e.symm
  simp [putRow, mapBlock, Sort.ahead, Array.getElem?_modify, this]
theorem take_put (cur : Array Value) (ts : Array α) (h : ts.size ≤ cur.size) : (putCells enc 0 ts cur).toList.take ts.size = ts.toList.map enc := by
  apply List.ext_getElem?
  intro j
  by_cases hj : j < ts.size
  · rw [List.getElem?_take_of_lt hj, Array.getElem?_toList]
    simp [putCells, hj, show j < cur.size by omega]
  · rw [List.getElem?_take_eq_none (by omega), List.getElem?_eq_none (by simp; omega)]
end
theorem Ints.holds {w : World} {g cap n : Nat} {L : List Int} (h : Ints w (.slice (some ⟨g, 0, none⟩) n cap) L) : Holds (Value.int .i64) w g 0 L.toArray := fun j hj => by
  have hj' : j < L.length := by simpa using hj
  rw [getElem!_pos L.toArray j hj, Nat.zero_add]
  exact ⟨by simpa using Ints.cell h (List.getElem?_eq_getElem hj'), Sl.frozen h _⟩
def sortL (L : List Int) : List Int := L.mergeSort fun x y => decide (x ≤ y)
theorem sortI_any (v : Value) (L : List Int) (w : World) (h : Ints w v L) (hL : L ≠ []) (hlen : L.length < 1099511627) :
    Calls Tryz.prog 40 #[v] w fun e w' => e = .returned (.tuple #[]) ∧ Ints w' v (sortL L) ∧ Kept (fun k => v.ownBlock = some k) w w' := by
  rcases h.2.2 with ⟨_, hn⟩ | ⟨g, cap, cur, rfl, _, hg, hc1, hc2, hc3, hc4⟩
  · exact absurd (List.eq_nil_of_length_eq_zero (by simpa using hn)) hL
  rw [ints_flat, Nat.mul_one, List.length_map] at hc4
  rw [List.length_map] at hc1 h ⊢
  refine (Tryz.slices_Sort_int g 0 cap L w h.holds (Array.getElem?_eq_some_iff.1 hg).1 (by omega)).mono fun e w' ⟨he, n, os, hw⟩ => ⟨he, ?_, ?_⟩
  · rw [hw]
    have hl : (sortL L).length = L.length := List.length_mergeSort _
    refine ⟨fun c hc => by obtain ⟨u, _, rfl⟩ := List.mem_map.1 hc; rfl, ?_⟩
    rw [ints_flat, List.length_map, hl]
    refine ⟨by simp [hl], .inr ⟨g, cap, _, rfl, Nat.zero_le _, heap_put hg, hc1, hc2, by simp [putCells, hc3], ?_⟩⟩
    have := take_put (enc := Value.int .i64) cur (sortL L).toArray (by simp [hl]; omega)
    simp only [List.size_toArray, hl] at this
    rw [Nat.mul_one]
    exact this
  · rw [hw]
    exact kept_put.mono (fun k _ e => by rw [e]; rfl)
theorem compactI_any (v : Value) (L : List Int) (w : World) (h : Ints w v L) (hL : L ≠ []) (hlen : L.length < 1099511627) :
    Calls Tryz.prog 71 #[v] w fun e w' => ∃ v', e = .returned v' ∧ Ints w' v' (Lib.compact L) ∧ Kept (fun k => v.ownBlock = some k) w w' ∧ v'.ownBlock = v.ownBlock := by
  rcases h.2.2 with ⟨_, hn⟩ | ⟨g, cap, cur, rfl, _, hg, hc1, hc2, hc3, hc4⟩
  · exact absurd (List.eq_nil_of_length_eq_zero (by simpa using hn)) hL
  rw [ints_flat, Nat.mul_one, List.length_map] at hc4
  rw [List.length_map] at hc1 h ⊢
  refine (Tryz.slices_Compact_int g 0 cap L w h.holds (by omega) hc1).mono fun e w' ⟨he, n, hw⟩ => ⟨_, he, ?_, ?_, rfl⟩
  · have hcl := Lib.compact_length_le L
    have hw2 : w' = grow (putRow (Value.int .i64) (Sort.ahead w n) g 0 (Lib.compact L ++ List.replicate (L.length - (Lib.compact L).length) 0).toArray) #[] := by rw [hw, grow_empty]
    rw [hw2]
    refine ⟨fun c hc => by obtain ⟨u, _, rfl⟩ := List.mem_map.1 hc; rfl, ?_⟩
    rw [ints_flat, List.length_map]
    refine ⟨by simp, .inr ⟨g, cap, _, rfl, Nat.zero_le _, heap_put hg, by omega, hc2, by simp [putCells, hc3], ?_⟩⟩
    have := take_put (enc := Value.int .i64) cur (Lib.compact L ++ List.replicate (L.length - (Lib.compact L).length) 0).toArray (by simp; omega)
    simp only [List.size_toArray, List.length_append, List.length_replicate] at this
    have h2 := congrArg (List.take (Lib.compact L).length) this
    rw [List.take_take, Nat.min_eq_left (by omega)] at h2
    rw [Nat.mul_one, h2]
    simp
  · have hw2 : w' = grow (putRow (Value.int .i64) (Sort.ahead w n) g 0 (Lib.compact L ++ List.replicate (L.length - (Lib.compact L).length) 0).toArray) #[] := by rw [hw, grow_empty]
    rw [hw2]
    exact kept_put.mono (fun k _ e => by rw [e]; rfl)

/-! ### what that makes: plain -/
theorem compactUpTo_ok {zs : List Int} (hs : zs.Pairwise (· ≤ ·)) : ∀ m, m ≤ zs.length → (Lib.compactUpTo zs.toArray m).Pairwise (· < ·) ∧ (∀ x, x ∈ Lib.compactUpTo zs.toArray m ↔ x ∈ zs.take m) ∧ ∀ x ∈ Lib.compactUpTo zs.toArray m, 0 < m → x ≤ zs.toArray[m - 1]!
  | 0, _ => by simp [Lib.compactUpTo]
  | m + 1, hm => by
    obtain ⟨h1, h2, h3⟩ := compactUpTo_ok hs m (by omega)
    have hml : m < zs.length := by omega
    have hget : zs.toArray[m]! = zs[m] := by rw [getElem!_pos _ m (by simpa using hml)]; simp
    rw [Lib.compactUpTo_succ, Nat.add_sub_cancel, hget]
    have hle : ∀ x ∈ Lib.compactUpTo zs.toArray m, x ≤ zs[m] := fun x hx => by
      obtain ⟨j, hj, e⟩ := List.mem_iff_getElem.1 ((h2 x).1 hx)
      rw [List.length_take] at hj
      rw [List.getElem_take] at e
      rw [← e]
      exact List.pairwise_iff_getElem.1 hs j m (by omega) hml (by omega)
    have htk : zs.take (m + 1) = zs.take m ++ [zs[m]] := by rw [List.take_add_one, List.getElem?_eq_getElem hml]; rfl
    by_cases hk : Lib.keeps zs.toArray m = true
    · rw [if_pos hk]
      refine ⟨?_, fun x => ?_, fun x hx _ => ?_⟩
      · rw [List.pairwise_append]
        refine ⟨h1, by simp, fun x hx y hy => ?_⟩
        rw [List.mem_singleton] at hy
        subst hy
        have hxl := hle x hx
        unfold Lib.keeps at hk
        rw [decide_eq_true_eq] at hk
        rcases hk with rfl | hne
        · rw [h2] at hx; simp at hx
        · rcases Nat.eq_zero_or_pos m with rfl | hmp
          · rw [h2] at hx; simp at hx
          have hx3 := h3 x hx hmp
          have hg2 : zs.toArray[m - 1]! = zs[m - 1] := by rw [getElem!_pos _ (m - 1) (by simp; omega)]; simp
          rw [hget, hg2] at hne
          rw [hg2] at hx3
          have := List.pairwise_iff_getElem.1 hs (m - 1) m (by omega) hml (by omega)
          omega
      · rw [htk, List.mem_append, List.mem_append, h2]
      · rw [List.mem_append, List.mem_singleton] at hx
        rcases hx with hx | rfl
        · exact hle x hx
        · exact Int.le_refl _
    · rw [if_neg hk, List.append_nil]
      have hmp : 0 < m := by
        rcases Nat.eq_zero_or_pos m with rfl | h
        · exact absurd (Lib.keeps_lt_one _ 0 (by omega)) hk
        · exact h
      have heq : zs[m] = zs[m - 1] := by
        have : ¬ (m = 0 ∨ zs.toArray[m]! ≠ zs.toArray[m - 1]!) := fun h => hk (by unfold Lib.keeps; exact decide_eq_true h)
        have hg2 : zs.toArray[m - 1]! = zs[m - 1] := by rw [getElem!_pos _ (m - 1) (by simp; omega)]; simp
        rw [hget, hg2] at this
        by_cases e : zs[m] = zs[m - 1]
        · exact e
        · exact absurd (.inr e) this
      refine ⟨h1, fun x => ?_, fun x hx _ => hle x hx⟩
      rw [htk, List.mem_append, h2, List.mem_singleton]
      constructor
      · exact .inl
      · rintro (h | rfl)
        · exact h
        · rw [heq]
          rw [List.mem_iff_getElem]
          exact ⟨m - 1, by simp; omega, by simp⟩
theorem compact_ok {zs : List Int} (hs : zs.Pairwise (· ≤ ·)) : (Lib.compact zs).Pairwise (· < ·) ∧ ∀ x, x ∈ Lib.compact zs ↔ x ∈ zs := by
  obtain ⟨h1, h2, _⟩ := compactUpTo_ok hs zs.length (Nat.le_refl _)
  rw [List.take_length] at h2
  exact ⟨h1, h2⟩
theorem sortL_ok (L : List Int) : (sortL L).Pairwise (· ≤ ·) ∧ ∀ x, x ∈ sortL L ↔ x ∈ L := by
  refine ⟨?_, fun x => List.mem_mergeSort⟩
  have := List.pairwise_mergeSort (le := fun (x y : Int) => decide (x ≤ y)) (fun a b c h1 h2 => by simp at *; omega) (fun a b => by simp; omega) L
  exact this.imp (fun h => by simpa using h)
/-- two rows that rise and hold the same are the same -/
theorem rising_eq : ∀ {a b : List Int}, a.Pairwise (· < ·) → b.Pairwise (· < ·) → (∀ x, x ∈ a ↔ x ∈ b) → a = b
  | [], [], _, _, _ => rfl
  | [], y :: b, _, _, h => by have := (h y).2 (List.mem_cons_self ..); cases this
  | x :: a, [], _, _, h => by have := (h x).1 (List.mem_cons_self ..); cases this
  | x :: a, y :: b, ha, hb, h => by
    have ha2 := List.pairwise_cons.1 ha
    have hb2 := List.pairwise_cons.1 hb
    have e : x = y := by
      rcases List.mem_cons.1 ((h x).1 (List.mem_cons_self ..)) with e | hx
      · exact e
      · rcases List.mem_cons.1 ((h y).2 (List.mem_cons_self ..)) with e | hy
        · exact e.symm
        · have h1 := hb2.1 x hx
          have h2 := ha2.1 y hy
          omega
    subst e
    congr 1
    refine rising_eq ha2.2 hb2.2 fun z => ⟨fun hz => ?_, fun hz => ?_⟩
    · rcases List.mem_cons.1 ((h z).1 (List.mem_cons_of_mem _ hz)) with rfl | h3
      · exact absurd (ha2.1 _ hz) (by omega)
      · exact h3
    · rcases List.mem_cons.1 ((h z).2 (List.mem_cons_of_mem _ hz)) with rfl | h3
      · exact absurd (hb2.1 _ hz) (by omega)
      · exact h3

end Go.Proofs.YtlkgmcacbfoijaaGreat

set_option linter.unusedSimpArgs false
set_option linter.unusedVariables false
namespace Go.Proofs.YtlkgmcacbfoijaaGreat
open Go.RowKit

section
variable {w : World} {ops : Array Oper} {rest : List Oper} {o : Oper} {a : Act} {Q : Exit → Act → World → Prop}
/-- 's = append(s, y)' at integers -/
theorem wpList_pushI (hgd : o.guard = none) (s x : Operand) (ho : o.op = .call { callee := .builtin .append, args := #[s, x], argTypes := #[28, 28] })
    (v : Value) (L : List Int) (y : Int) (hs : a.eval s = v) (hx : a.eval x = .slice (some ⟨w.heap.size, 0, none⟩) 1 1) (h : Ints w v L) (hlen : L.length < 1073741824)
    (hK : ∀ v' w', Ints w' v' (L ++ [y]) → Kept (fun k => v.ownBlock = some k) w w' → (∀ g, v'.ownBlock = some g → v.ownBlock = some g ∨ w.heap.size ≤ g) → wpList Tryz.prog ops Q rest (a.put o.dst v') w') :
    wpList Tryz.prog ops Q (o :: rest) a (w.alloc (.cells #[.int .i64 y] 3)) := by
  obtain ⟨i0, hI0, hI1, hI2, hI3⟩ := info_parts infoI
  refine wpList_push (w := w) hgd s x 28 ho Tryz.underlying28 hI0 hI1 hI2 hI3 rfl (by omega) v (L.map icell') (icell' y) hs hx h rfl (by simp [icell', Value.oneCell']) (by simpa using hlen) (by omega) ?_
  intro g cap w' hS hk hg
  refine hK _ w' ?_ hk (fun g' hg' => by
    simp only [Value.ownBlock, Option.some.injEq] at hg'
    subst hg'
    exact hg)
  unfold Ints
  rw [List.map_append]
  exact hS
end

/-! ### where subprograms begin -/
def tgtC (l : List In) (i : Nat) : Option Int := match l[i]?, (secL l)[i]? with
  | some x, some false => if isCallB x = true then some ((i : Int) + 1 + x.imm) else none
  | _, _ => none
def tgtsL (l : List In) (n : Nat) : List Int := (List.range n).filterMap (tgtC l)
theorem tgts_succ (l : List In) (n : Nat) : tgtsL l (n + 1) = tgtsL l n ++ (tgtC l n).toList := by
  unfold tgtsL
  rw [List.range_succ, List.filterMap_append]
  cases hc : tgtC l n <;> simp [hc]
theorem tgts_len (l : List In) : ∀ n, (tgtsL l n).length ≤ n
  | 0 => by simp [tgtsL]
  | n + 1 => by
    have := tgts_len l n
    rw [tgts_succ, List.length_append]
    cases tgtC l n <;> simp <;> omega
def beginsL (l : List In) : List Int := Lib.compact (sortL (0 :: tgtsL l l.length))
set_option maxHeartbeats 4000000 in
set_option maxRecDepth 100000 in
theorem begins_any (l : List In) (a : Option Addr) (c : Nat) (sv : Value) (w : World) (h : Ins w (.slice a l.length c) l) (hok : InsOk l) (hS : Bls w sv (secL l)) :
    Calls Tryz.prog 45 #[.slice a l.length c, sv] w fun e w' => ∃ ov, e = .returned ov ∧ Ints w' ov (beginsL l) ∧ Kept (fun _ => False) w w' ∧ ∀ g, ov.ownBlock = some g → w.heap.size ≤ g := by
  have hlen := hok.len
  have HCA := Lib.hid (fun i x W hx hI => calls_any l a c i x W hI hok hx)
  have hL0 : Ints (w.alloc (.cells #[.int .i64 0] 3)) (.slice (some ⟨w.heap.size, 0, none⟩) 1 1) [0] := by
    have hb : (w.alloc (.cells #[.int .i64 0] 3)).heap[w.heap.size]? = some (.cells #[.int .i64 0] 3 (0, 0)) := heap_alloc_new w _
    refine ⟨fun c hc => by obtain ⟨u, _, rfl⟩ := List.mem_map.1 hc; rfl, rfl, .inr ⟨w.heap.size, 1, _, rfl, Nat.zero_le _, hb, Nat.le_refl _, by unfold maxLen; omega, rfl, rfl⟩⟩
  have hk0 : Kept (fun _ => False) w (w.alloc (.cells #[.int .i64 0] 3)) := (Kept.refl _ w).alloc _
  go_enter Tryz.func45, Tryz.ntmps45
  go_wp2_with fail
  go_loopw [5, 12] (fun ov iv wr => ∃ i : Nat, iv = .int .i64 i ∧ i ≤ l.length ∧ Ints wr ov (0 :: tgtsL l i) ∧ Kept (fun _ => False) w wr ∧ ∀ g, ov.ownBlock = some g → w.heap.size ≤ g) (fun _ iv _ => l.length - (intOf iv).toNat)
  case atStart => exact ⟨0, rfl, by omega, hL0, hk0, fun g hg => Nat.le_of_eq (Option.some.inj (show some w.heap.size = some g from hg))⟩
  case round =>
    clear hL0 hk0
    obtain ⟨i, rfl, hi, hL, hK, hown⟩ := hrel
    by_cases hlt : i < l.length
    case neg =>
      obtain rfl : i = l.length := by omega
      have htl := tgts_len l l.length
      have HS1 := Lib.hid (fun W hW => sortI_any u5 (0 :: tgtsL l l.length) W hW (by simp) (by simp; omega))
      have hsl : (sortL (0 :: tgtsL l l.length)).length = (tgtsL l l.length).length + 1 := by unfold sortL; rw [List.length_mergeSort]; rfl
      have HS2 := Lib.hid (fun W hW => compactI_any u5 (sortL (0 :: tgtsL l l.length)) W hW (fun e => by rw [e] at hsl; simp at hsl) (by omega))
      clear htl hsl
      go_wp2_with fail
      refine (HS1.out _ hL).mono ?_
      rintro e w1 ⟨rfl, hL1, hk1⟩
      have hK1 := hK.trans hk1 (fun k hk e => by have := hown k e; omega)
      go_wp2_with fail
      refine (HS2.out _ hL1).mono ?_
      rintro e w2 ⟨v2, rfl, hL2, hk2, ho2⟩
      have hK2 := hK1.trans hk2 (fun k hk e => by have := hown k e; omega)
      go_wp2_with fail
      go_ret
      exact ⟨_, rfl, hL2, hK2, fun g hg => hown g (by rw [← ho2]; exact hg)⟩
    case pos =>
      obtain ⟨x, hx⟩ : ∃ x, l[i]? = some x := ⟨_, List.getElem?_eq_getElem hlt⟩
      obtain ⟨b, hb⟩ : ∃ b, (secL l)[i]? = some b := ⟨_, List.getElem?_eq_getElem (by rw [sec_len]; omega)⟩
      have hS2 := Sl.kept hK hS (fun _ _ h => h)
      obtain ⟨g, sc, hsv, hg, d0⟩ := Bls.at_ hS2 hb
      rw [sec_len] at hsv
      have htc : tgtC l i = if isCallB x = true ∧ b = false then some ((i : Int) + 1 + x.imm) else none := by
        unfold tgtC
        rw [hx, hb]
        cases b <;> simp
      have hnx := tgts_succ l i
      have htl := tgts_len l i
      rw [htc] at hnx
      have HC := Lib.hid (HCA.out i x _ hx (h.kept hK))
      have HNX := Lib.hid hnx
      have HOWN := Lib.hid hown
      clear hx hb hS2 hS h hok htc hnx hown
      subst hsv
      generalize isCallB x = ic at *
      go_wp2_with fail
      refine HC.out.mono ?_
      rintro e w1 ⟨rfl, hk1⟩
      have hK1 := hK.trans hk1 (fun _ _ h => h)
      have d1 := (hk1.cell (p := ⟨g, i, none⟩) hg (fun h => h)).trans d0
      have hL1 := Sl.kept hk1 hL (fun _ _ h => h)
      clear hk1 d0 hL hK HC
      by_cases hgo : ic = true ∧ b = false
      · obtain ⟨rfl, rfl⟩ := hgo
        have hnx := HNX.out
        rw [if_pos ⟨rfl, rfl⟩, Option.toList_some] at hnx
        have HN2 := Lib.hid hnx
        clear hnx HNX
        generalize (i : Int) + 1 + x.imm = t at *
        go_wp2_with (at_builtin; refine wpList_pushI (w := w1) rfl (.tmp 29) (.tmp 31) rfl u5 (0 :: tgtsL l i) t rfl rfl hL1 (by simp; omega) ?_; intro v5 w5 hL5 hk5 hw5)
        have hK5 := hK1.trans hk5 (fun k hk e => by have := HOWN.out k e; omega)
        go_roundw
        case rel => exact ⟨i + 1, by go_num, by omega, by rw [HN2.out, ← List.cons_append]; exact hL5, hK5, fun g hg => (hw5 g hg).elim (HOWN.out g) (fun h => Nat.le_trans hK1.size h)⟩
        case measure => simp [intOf]; omega
      · have hnx := HNX.out
        have hnx2 : tgtsL l (i + 1) = tgtsL l i := by
          rw [hnx, if_neg hgo]
          simp
        have HN2 := Lib.hid hnx2
        clear hnx hnx2 HNX
        cases ic <;> cases b
        case true.false => exact absurd ⟨rfl, rfl⟩ hgo
        all_goals
          clear hgo
          go_wp2_with fail
          go_roundw
          case rel => exact ⟨i + 1, by go_num, by omega, by rw [HN2.out]; exact hL1, hK1, HOWN.out⟩
          case measure => simp [intOf]; omega

end Go.Proofs.YtlkgmcacbfoijaaGreat

