import Derived.Test.YtmgdjiplpfeoiaaDoorPb
import Derived.Test.YtmgdjiplpfeoiaaDoorTu
import Derived.Test.YtmgdjiplpfeoiaaDoorTt
import Derived.Outline
set_option linter.unusedSimpArgs false
set_option linter.unusedVariables false
namespace Go.Proofs.YtmgdjiplpfeoiaaDoor
open Go.RowKit

theorem spot_none {w : World} {a : Addr} {v : Value} (h : w.cell? a = some v) : a.spot = none := by
  unfold World.cell? at h
  split at h
  · split at h
    · cases h
    · rename_i hs; simpa using hs
  · cases h
/-- a slice of bytes that came in -/
def InB (w : World) (a : Option Addr) (l : List UInt8) : Prop := ∀ (i : Nat) (b : UInt8), l[i]? = some b → ∃ g off, a = some ⟨g, off, none⟩ ∧ g < w.heap.size ∧ w.cell? ⟨g, off + i, none⟩ = some (.int .u8 (b.toNat : Int))
theorem InB.kept {w w' : World} {a : Option Addr} {l : List UInt8} (h : InB w a l) (hk : Kept (fun _ => False) w w') : InB w' a l := fun i b hb => by
  obtain ⟨g, off, ha, hg, hc⟩ := h i b hb
  exact ⟨g, off, ha, Nat.lt_of_lt_of_le hg hk.size, by rw [hk.cell (p := ⟨g, off + i, none⟩) hg (fun h => h)]; exact hc⟩

theorem let_ext : ∀ i, i < 52 → (ByteArray.mk lettersL.toArray).extract i (i + 1) = ⟨(letL i).toArray⟩ := by decide +kernel
theorem rTo_eq (n i : Nat) : rTo n i = ((i : Int) + 1) % (n : Int) + 1 := by
  unfold rTo
  simp
theorem TL.lt {w : World} {B : Nat} {lv : Value} {l : List Ty} (h : TL w B lv l) : ∀ g, lv.ownBlock = some g → B ≤ g ∧ g < w.heap.size := fun g hg => by
  obtain ⟨mvs, hl, hS, hB, hm⟩ := h
  exact ⟨hB g hg, hS.lt g hg⟩
set_option maxHeartbeats 2000000 in
set_option maxRecDepth 100000 in
theorem walk_rounds (ca : Option Addr) (cc : Nat) (cs : List UInt8) (n p : Int) (w : World) (hin : InB w ca cs) (hm : cs.length ≤ maxLen) :
    Calls Tryd.prog 6 #[.int .i64 n, .slice ca cs.length cc, .int .i64 p] w fun e w' => e = .returned (.bool true) ∧ Kept (fun _ => False) w w' := by
  unfold maxLen at hm
  by_cases h1 : n < 1
  · go_enter Tryd.func6, Tryd.ntmps6
    go_wp2_with fail
    refine (known_any w).mono ?_
    rintro e w1 ⟨rfl, hk1⟩
    go_wp2_with fail
    go_ret
    exact ⟨rfl, hk1⟩
  by_cases h40 : 40 < n
  · go_enter Tryd.func6, Tryd.ntmps6
    go_wp2_with fail
    refine (known_any w).mono ?_
    rintro e w1 ⟨rfl, hk1⟩
    go_wp2_with fail
    go_ret
    exact ⟨rfl, hk1⟩
  obtain ⟨N, rfl⟩ : ∃ N : Nat, n = (N : Int) := ⟨n.toNat, by omega⟩
  by_cases hl : cs.length < N
  · go_enter Tryd.func6, Tryd.ntmps6
    go_wp2_with fail
    refine (known_any w).mono ?_
    rintro e w1 ⟨rfl, hk1⟩
    go_wp2_with fail
    go_ret
    exact ⟨rfl, hk1⟩
  go_enter Tryd.func6, Tryd.ntmps6
  go_wp2_with fail
  refine (known_any w).mono ?_
  rintro e w1 ⟨rfl, hk1⟩
  go_wp2_with fail
  go_loopw [9, 7] (fun iv lv wr => ∃ i : Nat, iv = .int .i64 i ∧ i ≤ N ∧ TL wr w.heap.size lv (rL N p (cs.take i)) ∧ Kept (fun _ => False) w wr) (fun iv _ _ => N - (intOf iv).toNat)
  case atStart => exact ⟨0, rfl, Nat.zero_le _, TL.nil _ _, hk1⟩
  case round =>
    clear hk1
    obtain ⟨i, rfl, hi, hT, hK⟩ := hrel
    have hlen : (rL N p (cs.take i)).length = i := by rw [rL_len, List.length_take]; omega
    obtain ⟨lA, lC, hlv⟩ := hT.any
    rw [hlen] at hlv
    subst hlv
    by_cases hlt : i < N
    case neg =>
      obtain rfl : i = N := by omega
      have hTy : Tys wr (.slice lA (rL i p (cs.take i)).length lC) (rL i p (cs.take i)) := by rw [hlen]; exact hT.tys
      have hchk := r_check (p := p) (cs := cs.take i) (n := i) (by rw [List.length_take]; omega) (by omega) (by omega)
      have hCA := Lib.hid (check_any (rL i p (cs.take i)) lA lC wr hTy (raw_r (by rw [List.length_take]; omega)))
      clear hTy
      rw [hlen, hchk] at hCA
      clear hchk hlen hT
      by_cases hp0 : 0 ≤ p
      · by_cases hp1 : p < (i : Int)
        · rw [if_pos ⟨hp0, hp1⟩] at hCA
          go_wp2_with fail
          refine hCA.out.mono ?_
          rintro e w2 ⟨rfl, hk2⟩
          go_wp2_with fail
          go_ret
          exact ⟨rfl, hK.trans hk2 (fun _ _ h => h)⟩
        · rw [if_neg (fun h => hp1 h.2)] at hCA
          go_wp2_with fail
          refine hCA.out.mono ?_
          rintro e w2 ⟨rfl, hk2⟩
          go_wp2_with fail
          go_ret
          exact ⟨rfl, hK.trans hk2 (fun _ _ h => h)⟩
      · rw [if_neg (fun h => hp0 h.1)] at hCA
        go_wp2_with fail
        refine hCA.out.mono ?_
        rintro e w2 ⟨rfl, hk2⟩
        go_wp2_with fail
        go_ret
        exact ⟨rfl, hK.trans hk2 (fun _ _ h => h)⟩
    case pos =>
      obtain ⟨c, hc⟩ : ∃ c, cs[i]? = some c := ⟨_, List.getElem?_eq_getElem (by omega)⟩
      obtain ⟨gc, oc, rfl, hgc, hcc0⟩ := hin i c hc
      have hcc : wr.cell? ⟨gc, oc + i, none⟩ = some (.int .u8 (c.toNat : Int)) := by rw [hK.cell (p := ⟨gc, oc + i, none⟩) hgc (fun h => h)]; exact hcc0
      have hc256 := c.toNat_lt
      have hrn := r_next (n := N) (p := p) hc
      have hr0 : 0 ≤ ((i : Int) + 1) % (N : Int) := Int.emod_nonneg _ (by omega)
      have hr1 : ((i : Int) + 1) % (N : Int) ≤ 40 := by have := Int.emod_lt_of_pos ((i : Int) + 1) (show (0 : Int) < (N : Int) by omega); omega
      have HL := Lib.hid hlen
      have HRN := Lib.hid hrn
      clear hlen hrn
      by_cases hp : (i : Int) = p
      · obtain rfl : p = (i : Int) := hp.symm
        have hcs : (#[.int .i64 2, nV [], .int .i64 0, .bool false, .int .i64 (((i : Int) + 1) % (N : Int) + 1), .int .i64 0, .slice none 0 0] : Array Value) = tyVals (rTy N (i : Int) i c) (.slice none 0 0) := by unfold rTy; rw [if_pos rfl, rTo_eq]
        have hmn : (rTy N (i : Int) i c).mem = [] := by unfold rTy; rw [if_pos rfl]
        have HCS := Lib.hid hcs
        have HMN := Lib.hid hmn
        clear hcs hmn
        go_wp2_with (at_builtin; refine wpList_pushT (w := wr) rfl (.tmp 53) (.tmp 56) rfl w.heap.size (.slice lA i lC) (rL N (i : Int) (cs.take i)) (rTy N (i : Int) i c) (.slice none 0 0) _ HCS.out rfl rfl hT (MbsApart.nil _ _ HMN.out) rfl (by rw [HL.out]; omega) hK.size ?_; intro g5 cap5 w5 hT5 hk5; rw [HL.out] at hT5 ⊢; rw [← HRN.out] at hT5; have hK5 : Kept (fun _ => False) w w5 := hK.trans hk5 (fun k hk e => by have := hT.lt k e; omega))
        go_roundw
        case rel => exact ⟨i + 1, by go_num, by omega, hT5, hK5⟩
        case measure => simp [intOf]; omega
      · have hext := Lib.hid (let_ext i (by omega))
        rcases (show c.toNat % 3 = 0 ∨ c.toNat % 3 = 1 ∨ c.toNat % 3 = 2 by omega) with h3 | h3 | h3
        · have hcs : (#[.int .i64 5, .string ((ByteArray.mk lettersL.toArray).extract i (i + 1)), .int .i64 0, .bool false, .int .i64 (((i : Int) + 1) % (N : Int) + 1), .int .i64 0, .slice none 0 0] : Array Value) = tyVals (rTy N p i c) (.slice none 0 0) := by unfold rTy; rw [if_neg hp, if_pos h3, rTo_eq]; rw [hext.out]
          have hmn : (rTy N p i c).mem = [] := by unfold rTy; rw [if_neg hp, if_pos h3]
          have HCS := Lib.hid hcs
          have HMN := Lib.hid hmn
          clear hcs hmn
          go_wp2_with (at_builtin; refine wpList_pushT (w := wr) rfl (.tmp 65) (.tmp 73) rfl w.heap.size (.slice lA i lC) (rL N p (cs.take i)) (rTy N p i c) (.slice none 0 0) _ HCS.out rfl rfl hT (MbsApart.nil _ _ HMN.out) rfl (by rw [HL.out]; omega) hK.size ?_; intro g5 cap5 w5 hT5 hk5; rw [HL.out] at hT5 ⊢; rw [← HRN.out] at hT5; have hK5 : Kept (fun _ => False) w w5 := hK.trans hk5 (fun k hk e => by have := hT.lt k e; omega))
          go_roundw
          case rel => exact ⟨i + 1, by go_num, by omega, hT5, hK5⟩
          case measure => simp [intOf]; omega
        · have hcs : (#[.int .i64 3, nV [], .int .i64 0, .bool false, .int .i64 (((i : Int) + 1) % (N : Int) + 1), .int .i64 1, .slice none 0 0] : Array Value) = tyVals (rTy N p i c) (.slice none 0 0) := by unfold rTy; rw [if_neg hp, if_neg (by omega), if_pos h3, rTo_eq]
          have hmn : (rTy N p i c).mem = [] := by unfold rTy; rw [if_neg hp, if_neg (by omega), if_pos h3]
          have HCS := Lib.hid hcs
          have HMN := Lib.hid hmn
          clear hcs hmn
          go_wp2_with (at_builtin; refine wpList_pushT (w := wr) rfl (.tmp 82) (.tmp 85) rfl w.heap.size (.slice lA i lC) (rL N p (cs.take i)) (rTy N p i c) (.slice none 0 0) _ HCS.out rfl rfl hT (MbsApart.nil _ _ HMN.out) rfl (by rw [HL.out]; omega) hK.size ?_; intro g5 cap5 w5 hT5 hk5; rw [HL.out] at hT5 ⊢; rw [← HRN.out] at hT5; have hK5 : Kept (fun _ => False) w w5 := hK.trans hk5 (fun k hk e => by have := hT.lt k e; omega))
          go_roundw
          case rel => exact ⟨i + 1, by go_num, by omega, hT5, hK5⟩
          case measure => simp [intOf]; omega
        · have hcs : (#[.int .i64 4, .string ((ByteArray.mk lettersL.toArray).extract i (i + 1)), .int .i64 8, .bool false, .int .i64 0, .int .i64 0, .slice (some ⟨wr.heap.size, 0, none⟩) 1 1] : Array Value) = tyVals (rTy N p i c) (.slice (some ⟨wr.heap.size, 0, none⟩) 1 1) := by unfold rTy; rw [if_neg hp, if_neg (by omega), if_neg (by omega), hext.out]
          have hmn : (rTy N p i c).mem = [⟨[109], rTo N i, 0⟩] := by unfold rTy; rw [if_neg hp, if_neg (by omega), if_neg (by omega)]
          have hmb : MbsApart (wr.alloc (.cells #[nV [109], .int .i64 (((i : Int) + 1) % (N : Int) + 1), .int .i64 0] 42)) (.slice lA i lC) (.slice (some ⟨wr.heap.size, 0, none⟩) 1 1) (rTy N p i c) := by
            refine ⟨?_, fun g hg => ?_⟩
            · rw [hmn]
              refine Mbs.ofBlk (Blk.new _ _ _) rfl ?_
              rw [rTo_eq]
              rfl
            · simp only [Value.ownBlock, Option.some.injEq] at hg
              subst hg
              refine ⟨by simp, fun h => ?_⟩
              have := hT.lt _ h
              omega
          have HCS := Lib.hid hcs
          have HMB := Lib.hid hmb
          have hTa := hT.kept ((Kept.refl (fun _ => False) wr).alloc (.cells #[nV [109], .int .i64 (((i : Int) + 1) % (N : Int) + 1), .int .i64 0] 42))
          have hKa := hK.alloc (.cells #[nV [109], .int .i64 (((i : Int) + 1) % (N : Int) + 1), .int .i64 0] 42)
          clear hcs hmn hmb
          go_wp2_with (at_builtin; refine wpList_pushT (w := wr.alloc (.cells #[nV [109], .int .i64 (((i : Int) + 1) % (N : Int) + 1), .int .i64 0] 42)) rfl (.tmp 37) (.tmp 47) rfl w.heap.size (.slice lA i lC) (rL N p (cs.take i)) (rTy N p i c) (.slice (some ⟨wr.heap.size, 0, none⟩) 1 1) _ HCS.out rfl (by simp [alloc_size]; rfl) hTa HMB.out rfl (by rw [HL.out]; omega) hKa.size ?_; intro g5 cap5 w5 hT5 hk5; rw [HL.out] at hT5 ⊢; rw [← HRN.out] at hT5; have hK5 : Kept (fun _ => False) w w5 := hKa.trans hk5 (fun k hk e => by have := hT.lt k e; omega))
          go_roundw
          case rel => exact ⟨i + 1, by go_num, by omega, hT5, hK5⟩
          case measure => simp [intOf]; omega

end Go.Proofs.YtmgdjiplpfeoiaaDoor
