import Derived.Test.YtdchmelgaljpfaaGreatKd
set_option linter.unusedSimpArgs false
set_option linter.unusedVariables false
namespace Go.Proofs.YtdchmelgaljpfaaGreat
open Go.RowKit

/-! ### the document's search -/
structure WtB (l : List In) (B : List Bool) (W : List Int) : Prop where
  len : B.length = l.length
  fromB : ∀ k, B[k]? = some true → Rch l k
  fromW : ∀ j ∈ W, ∃ n : Nat, j = n ∧ B[n]? = some true
  out : ∀ i : Nat, B[i]? = some true → (i : Int) ∈ W ∨ ∀ j ∈ succL l i, ∃ n : Nat, j = n ∧ B[n]? = some true
  zero : B[0]? = some true
structure WtC (l : List In) (B : List Bool) (W : List Int) (k m : Nat) : Prop where
  len : B.length = l.length
  fromB : ∀ k, B[k]? = some true → Rch l k
  fromW : ∀ j ∈ W, ∃ n : Nat, j = n ∧ B[n]? = some true
  out : ∀ i : Nat, B[i]? = some true → (i : Int) ∈ W ∨ (∀ j ∈ succL l i, ∃ n : Nat, j = n ∧ B[n]? = some true) ∨ (i = k ∧ ∀ j ∈ (succL l k).take m, ∃ n : Nat, j = n ∧ B[n]? = some true)
  zero : B[0]? = some true
  at_ : B[k]? = some true
theorem WtB.start {l : List In} (h : 0 < l.length) : WtB l ((List.replicate l.length false).set 0 true) [0] := by
  have hget : ∀ k, ((List.replicate l.length false).set 0 true)[k]? = some true → k = 0 := fun k hk => by
    rw [List.getElem?_set] at hk
    split at hk
    · rename_i e
      exact e.symm
    · rw [List.getElem?_replicate] at hk
      split at hk <;> simp at hk
  have h0 : ((List.replicate l.length false).set 0 true)[0]? = some true := by
    rw [List.getElem?_set, if_pos rfl, if_pos (by rw [List.length_replicate]; exact h)]
  refine ⟨by simp, fun k hk => by rw [hget k hk]; exact Rch.zero, fun j hj => ?_, fun i hi => .inl ?_, h0⟩
  · rw [List.mem_singleton] at hj
    exact ⟨0, by rw [hj]; rfl, h0⟩
  · rw [hget i hi]
    simp
theorem WtB.done {l : List In} {B : List Bool} (h : WtB l B []) : B = rchL l := by
  refine rchL_eq h.len fun k hk => ⟨h.fromB k, fun hr => ?_⟩
  induction hr with
  | zero => exact h.zero
  | step hi hj ih =>
    rename_i i j
    by_cases hil : i < l.length
    · rcases h.out i (ih hil) with e | e
      · cases e
      · obtain ⟨n, e1, e2⟩ := e _ hj
        obtain rfl : _ = n := Int.ofNat_inj.1 e1
        exact e2
    · have : succL l i = [] := by unfold succL; rw [List.getElem?_eq_none (by omega)]
      rw [this] at hj
      cases hj
theorem WtB.pop {l : List In} {B : List Bool} {W : List Int} {k : Nat} (h : WtB l B (W ++ [(k : Int)])) : WtC l B W k 0 where
  len := h.len
  fromB := h.fromB
  fromW j hj := h.fromW j (List.mem_append_left _ hj)
  out i hi := by
    rcases h.out i hi with e | e
    · rcases List.mem_append.1 e with e | e
      · exact .inl e
      · exact .inr (.inr ⟨Int.ofNat_inj.1 (List.mem_singleton.1 e), fun j hj => by simp at hj⟩)
    · exact .inr (.inl e)
  zero := h.zero
  at_ := by
    obtain ⟨n, e, hn⟩ := h.fromW k (by simp)
    obtain rfl : k = n := Int.ofNat_inj.1 e
    exact hn
theorem take_mem {S : List Int} {m : Nat} {t : Int} (hm : S[m]? = some t) {j : Int} (hj : j ∈ S.take (m + 1)) : j ∈ S.take m ∨ j = t := by
  rw [List.take_add_one, hm] at hj
  rcases List.mem_append.1 hj with e | e
  · exact .inl e
  · exact .inr (by simpa using e)
theorem WtC.old {l : List In} {B : List Bool} {W : List Int} {k m n : Nat} (h : WtC l B W k m) (hm : (succL l k)[m]? = some (n : Int)) (hn : B[n]? = some true) : WtC l B W k (m + 1) where
  len := h.len
  fromB := h.fromB
  fromW := h.fromW
  out i hi := by
    rcases h.out i hi with e | e | ⟨e, e2⟩
    · exact .inl e
    · exact .inr (.inl e)
    · refine .inr (.inr ⟨e, fun j hj => ?_⟩)
      rcases take_mem hm hj with e3 | e3
      · exact e2 j e3
      · exact ⟨n, e3, hn⟩
  zero := h.zero
  at_ := h.at_
theorem WtC.new {l : List In} {B : List Bool} {W : List Int} {k m n : Nat} (h : WtC l B W k m) (hm : (succL l k)[m]? = some (n : Int)) (hn : n < l.length) : WtC l (B.set n true) (W ++ [(n : Int)]) k (m + 1) := by
  have hset : ∀ i, B[i]? = some true → (B.set n true)[i]? = some true := fun i hi => by
    rw [List.getElem?_set]
    split
    · rw [if_pos (by have := h.len; omega)]
    · exact hi
  have hself : (B.set n true)[n]? = some true := by
    rw [List.getElem?_set, if_pos rfl, if_pos (by have := h.len; omega)]
  have hget : ∀ i, (B.set n true)[i]? = some true → i = n ∨ B[i]? = some true := fun i hi => by
    rw [List.getElem?_set] at hi
    split at hi
    · rename_i e
      exact .inl e.symm
    · exact .inr hi
  have hrn : Rch l n := Rch.step (h.fromB k h.at_) (List.mem_of_getElem? hm)
  refine ⟨by rw [List.length_set]; exact h.len, fun i hi => ?_, fun j hj => ?_, fun i hi => ?_, hset 0 h.zero, hset k h.at_⟩
  · rcases hget i hi with rfl | e
    · exact hrn
    · exact h.fromB i e
  · rcases List.mem_append.1 hj with e | e
    · obtain ⟨p, e1, e2⟩ := h.fromW j e
      exact ⟨p, e1, hset p e2⟩
    · exact ⟨n, List.mem_singleton.1 e, hself⟩
  · rcases hget i hi with rfl | hi
    · exact .inl (by simp)
    · rcases h.out i hi with e | e | ⟨e, e2⟩
      · exact .inl (List.mem_append_left _ e)
      · exact .inr (.inl fun j hj => by obtain ⟨p, e1, e3⟩ := e j hj; exact ⟨p, e1, hset p e3⟩)
      · refine .inr (.inr ⟨e, fun j hj => ?_⟩)
        rcases take_mem hm hj with e3 | e3
        · obtain ⟨p, e1, e4⟩ := e2 j e3
          exact ⟨p, e1, hset p e4⟩
        · exact ⟨n, e3, hself⟩
theorem WtC.fin {l : List In} {B : List Bool} {W : List Int} {k : Nat} (h : WtC l B W k (succL l k).length) : WtB l B W where
  len := h.len
  fromB := h.fromB
  fromW := h.fromW
  out i hi := by
    rcases h.out i hi with e | e | ⟨e, e2⟩
    · exact .inl e
    · exact .inr e
    · rw [List.take_length] at e2
      rw [e]
      exact .inr e2
  zero := h.zero
section
variable {w : World} {ops : Array Oper} {rest : List Oper} {o : Oper} {a : Act} {Q : Exit → Act → World → Prop}
theorem wpList_pushI' (hgd : o.guard = none) (s x : Operand) (ho : o.op = .call { callee := .builtin .append, args := #[s, x], argTypes := #[47, 47] })
    (v : Value) (L : List Int) (y : Int) {n : Nat} (hn : n = w.heap.size) (hs : a.eval s = v) (hx : a.eval x = .slice (some ⟨n, 0, none⟩) 1 1) (h : Ints w v L) (hlen : L.length < 1073741824)
    (hK : ∀ v' w', Ints w' v' (L ++ [y]) → Kept (fun k => v.ownBlock = some k) w w' → (∀ g, v'.ownBlock = some g → v.ownBlock = some g ∨ w.heap.size ≤ g) → wpList Tryz.prog ops Q rest (a.put o.dst v') w') :
    wpList Tryz.prog ops Q (o :: rest) a (w.alloc (.cells #[.int .i64 y] 3)) := by
  subst hn
  exact wpList_pushI hgd s x ho v L y hs hx h hlen hK
end
set_option maxHeartbeats 8000000 in
set_option maxRecDepth 100000 in
theorem rof_any (l : List In) (a : Option Addr) (c : Nat) (w : World) (h : Ins w (.slice a l.length c) l) (hok : InsOk l) (hc : checkI l = 0) :
    Calls Tryz.prog 19 #[.slice a l.length c] w fun e w' => ∃ ov, e = .returned ov ∧ Bls w' ov (rchL l) ∧ Kept (fun _ => False) w w' ∧ ∀ g, ov.ownBlock = some g → w.heap.size ≤ g := by
  have hlen := hok.len
  have hl1 := (slots_zero (check_parts hc).1).1
  have hzz := (check_parts hc).1
  have HNE := Lib.hid (fun i x W hI hx => rnext_any l a c i x W hI hok hx)
  have HNA := Lib.hid (fun i x W hx => rnames_any x W (hok.at_ (i := i) hx))
  have HTO := Lib.hid (fun i b W hi hb => rto_any a c l.length i b W hi hb)
  have HIMM := Lib.hid (fun i x (hx : l[i]? = some x) => (hok.at_ hx).imm)
  obtain ⟨i0, hI0, hI1, hI2, hI3⟩ := info_parts infoI
  obtain ⟨j0, hJ0, hJ1, hJ2, hJ3⟩ := info_parts infoB
  go_enter Tryz.func19, Tryz.ntmps19
  go_wp2_with (refine wpList_makeSl (w := w) rfl (.tmp 9) (.tmp 9) 85 rfl (.bool false) rfl Tryz.underlying85 hJ0 hJ1 hJ2 hJ3 (by omega) l.length rfl rfl (by omega) ?_; intro w1 hB1 hk1; have b0 := Bls.cell (L := List.replicate l.length false) (by unfold Bls; rw [List.map_replicate]; exact hB1) (i := 0) (x := false) (by rw [List.getElem?_replicate, if_pos (by omega)]); have f0 := Sl.frozen hB1 0)
  have hB1' : Bls w1 (.slice (some ⟨w.heap.size, 0, none⟩) l.length l.length) (List.replicate l.length false) := by
    unfold Bls
    rw [List.map_replicate]
    exact hB1
  have hgl1 : w.heap.size < w1.heap.size := Sl.lt hB1 _ rfl
  have hB2 := (Bls.set hB1' (i := 0) (by rw [List.length_replicate]; omega) true).alloc (.cells #[.int .i64 0] 3)
  have hK2 : Kept (fun _ => False) w ((w1.setCell ⟨w.heap.size, 0, none⟩ (.bool true)).alloc (.cells #[.int .i64 0] 3)) := (hk1.setCell (fun h => by simp at h) _).alloc _
  have hW2 := ints_one' (n := w1.heap.size) (w1.setCell ⟨w.heap.size, 0, none⟩ (.bool true)) 0 (by simp [World.setCell])
  have hct0 : ((List.replicate l.length false).set 0 true).count false + 1 = l.length := by
    have := count_set' (B := List.replicate l.length false) (k := 0) (by rw [List.getElem?_replicate, if_pos (by omega)])
    rw [List.count_replicate_self] at this
    exact this
  have HCT0 := Lib.hid hct0
  clear hB1 hB1' b0 f0 hct0
  go_loopg [4] (2 * l.length) (fun k wv wr => ∃ (B : List Bool) (W : List Int), WtB l B W ∧ Ints wr wv W ∧ (∀ g, wv.ownBlock = some g → w.heap.size < g) ∧ Bls wr (.slice (some ⟨w.heap.size, 0, none⟩) l.length l.length) B ∧ Kept (fun _ => False) w wr ∧ 2 * B.count false + W.length ≤ k ∧ k ≤ 10000000)
  case atStart => exact ⟨_, _, WtB.start (by omega), hW2, fun g hg => by simp [Value.ownBlock] at hg; omega, hB2, hK2, by have := HCT0.out; simp only [List.length_singleton]; omega, by omega⟩
  case round =>
    clear hB2 hK2 hW2 hk1 HCT0
    obtain ⟨B, W, hwt, hW, hown, hB, hK, hgk, hgb⟩ := hrel
    rcases List.eq_nil_or_concat W with rfl | ⟨W0, kk, rfl⟩
    · have hdn := hwt.done
      obtain ⟨oA, oC, hov⟩ := Sl.any hW
      simp only [List.map_nil, List.length_nil] at hov
      subst hov
      rw [hdn] at hB
      clear hdn hwt hW hgk HNE HNA
      go_wp2_with fail
      go_ret
      exact ⟨_, rfl, hB, hK, fun g hg => Nat.le_of_eq (Option.some.inj (show some w.heap.size = some g from hg))⟩
    · rw [List.concat_eq_append] at *
      obtain ⟨k, rfl, hbk⟩ := hwt.fromW kk (by simp)
      have hkr := hwt.fromB k hbk
      obtain ⟨hkl, hks⟩ := rch_ok hc hkr
      obtain ⟨x, hx⟩ : ∃ x, l[k]? = some x := ⟨_, List.getElem?_eq_getElem hkl⟩
      have hkn := known_of hzz hx hks
      have hsu : ∀ j ∈ succL l k, ∃ n : Nat, j = n ∧ n < l.length := fun j hj => by
        obtain ⟨n, e, e2, _⟩ := succ_ok hc hks hj
        exact ⟨n, e, e2⟩
      have hrg : isCallB x = true → toR l.length k x.imm = (k : Int) + 1 + x.imm := fun e => by
        obtain ⟨n, e1, e2, e3, _⟩ := nam_ok hc hx hks e
        unfold toR
        rw [if_neg (by omega), if_neg (by omega)]
      obtain ⟨wg, cap, rfl, hcap, hwl⟩ := Sl.some_ hW (by simp)
      have hne : w.heap.size < wg := hown wg rfl
      have hlw : (List.map icell' (W0 ++ [(k : Int)])).length = W0.length + 1 := by simp
      rw [hlw] at hW hcap ⊢
      have hwc := Ints.cell hW (i := W0.length) (x := (k : Int)) (by simp)
      have hW0 := Ints.pop hW
      have hcut := cutI wg 0 (W0.length + 1) cap W0.length (by omega)
      have hBl := hwt.len
      have hgb2 : W0.length + 2 * B.count false + 1 ≤ gk := by simp at hgk; omega
      have hWC := hwt.pop
      have hbl : w.heap.size < wr.heap.size := Sl.lt hB _ rfl
      have HSA := Lib.hid (succ_at hx)
      have hN1 := HNE.out k x wr (h.kept hK) hx
      rw [nextR_eq (hok.at_ hx) hkn] at hN1
      have HN1 := Lib.hid hN1
      have hN2 := fun W => HNA.out k x W hx
      rw [names_eq (hok.at_ hx) hkn] at hN2
      have HN2 := Lib.hid hN2
      have him := HIMM.out k x hx
      have HT := Lib.hid (fun W => HTO.out k x.imm W (by omega) ⟨by omega, by omega⟩)
      have HIX := Lib.hid (fun W hk => (h.kept (w' := W) hk).at_ hx)
      obtain ⟨lg, lo, rfl, hlg, c0, c1, c2, c3, c4⟩ := (h.kept hK).at_ hx
      have hnl := next_len k x
      have hnm : (namC k x).toList = if isCallB x = true then [(k : Int) + 1 + x.imm] else [] := by
        unfold namC
        cases isCallB x <;> simp
      rw [hnm] at HSA
      have HRG := Lib.hid hrg
      have HSU := Lib.hid hsu
      have HWC := Lib.hid hWC
      generalize isCallB x = ic at *
      generalize hgt : (k : Int) + 1 + x.imm = t at *
      clear hwt hlw hgk hx hkn hsu hkr hks HNE HNA HTO HIMM hnm hrg hbk h hok hWC hgt
      go_wp2_with fail
      refine HN1.out.mono ?_
      rintro e w2 ⟨v2, rfl, hV2, hk2, hown2⟩
      have hKW2 := hK.trans hk2 (fun _ _ h => h)
      have hW20 := Sl.kept hk2 hW0 (fun _ _ h => h)
      have hB20 := Sl.kept hk2 hB (fun _ _ h => h)
      have hsz2 := hk2.size
      obtain ⟨lg', lo', hlgg, hlg', e0, e1, e2, e3, e4⟩ := HIX.out _ hKW2
      cases hlgg
      clear c0 c1 c2 c3 c4 hW0 hB HN1
      generalize nextC k x = N at *
      go_wp2_with fail
      refine (HN2.out _).mono ?_
      rintro e w3 ⟨rfl, hk3⟩
      have hKW3 := hKW2.trans hk3 (fun _ _ h => h)
      have hW30 := Sl.kept hk3 hW20 (fun _ _ h => h)
      have hB30 := Sl.kept hk3 hB20 (fun _ _ h => h)
      have hV30 := Sl.kept hk3 hV2 (fun _ _ h => h)
      have hsz3 := hk3.size
      obtain ⟨lg', lo', hlgg, hlg2, f0, f1, f2, f3, f4⟩ := HIX.out _ hKW3
      cases hlgg
      clear e0 e1 e2 e3 e4 hW20 hB20 hV2 hcut
      cases ic
      case false =>
        simp only [Bool.false_eq_true, if_false, List.append_nil] at HSA
        have hnOwn : ∀ g, (Value.slice (some ⟨wg, 0, none⟩) W0.length cap).ownBlock = some g → ¬ v2.ownBlock = some g := fun g hg e => by
          have := hown2 g e
          simp [Value.ownBlock] at hg
          omega
        have hnOwnB : ¬ v2.ownBlock = some w.heap.size := fun e => by
          have := hown2 _ e
          omega
        obtain ⟨nA, nC, hnv⟩ := Sl.any hV30
        rw [List.length_map] at hnv
        subst hnv
        have hS := HSA.out
        have HSL := Lib.hid hS
        clear hS HSA
        have HVV := Lib.hid hV30
        go_wp2_with fail
        go_loopw [4, 7] (fun wv iv w5 => ∃ (m : Nat) (B' : List Bool) (W' : List Int), iv = .int .i64 m ∧ m ≤ (N).length ∧ WtC l B' W' k m ∧ Ints w5 wv W' ∧ (∀ g, wv.ownBlock = some g → w.heap.size < g ∧ (Value.slice nA (N).length nC).ownBlock ≠ some g) ∧ Bls w5 (.slice (some ⟨w.heap.size, 0, none⟩) l.length l.length) B' ∧ Ints w5 (.slice nA (N).length nC) (N) ∧ Kept (fun _ => False) w w5 ∧ W'.length + 2 * B'.count false + 1 ≤ gk ∧ w3.heap.size ≤ w5.heap.size) (fun _ iv _ => (N).length - (intOf iv).toNat)
        case atStart => exact ⟨0, B, W0, rfl, by omega, HWC.out, hW30, fun g hg => ⟨by simp [Value.ownBlock] at hg; omega, fun e => hnOwn g hg e⟩, hB30, HVV.out, hKW3, by omega, Nat.le_refl _⟩
        case round =>
          obtain ⟨m, B', W', rfl, hm, hwc, hWi, hownW, hBi, hVi, hKi, hci, hsi⟩ := hrel
          by_cases hlt : m < (N).length
          case neg =>
            obtain rfl : m = (N).length := by omega
            have hfin := hwc
            rw [← HSL.out] at hfin
            have HFIN := Lib.hid hfin.fin
            have hnd : decide ((((N).length : Nat) : Int) < (N).length) = false := decide_eq_false (by omega)
            clear hwc hfin hVi HVV
            go_wp2_with fail
            go_roundg (gk - 1)
            case measure => omega
            case rel => exact ⟨B', W', HFIN.out, hWi, fun g hg => (hownW g hg).1, hBi, hKi, by omega, by omega⟩
          case pos =>
            obtain ⟨j, hj⟩ : ∃ j, (N)[m]? = some j := ⟨_, List.getElem?_eq_getElem hlt⟩
            obtain ⟨n, rfl, hnl2⟩ := HSU.out j (by rw [HSL.out]; exact List.mem_of_getElem? hj)
            obtain ⟨ng, ncap, hnv, hngl, hncap⟩ := Sl.some_ hVi (by rw [List.length_map]; omega)
            rw [List.length_map] at hnv
            obtain ⟨rfl, -, rfl⟩ := Value.slice.inj hnv
            have n0 := Ints.cell hVi hj
            have hBl2 := hwc.len
            obtain ⟨b, hb⟩ : ∃ b, B'[n]? = some b := ⟨_, List.getElem?_eq_getElem (by omega)⟩
            have hbc := Bls.cell hBi hb
            have hbl2 : w.heap.size < wr.heap.size := Sl.lt hBi _ rfl
            have hj2 : (succL l k)[m]? = some (n : Int) := by rw [HSL.out]; exact hj
            have HC1 := Lib.hid (fun (e : b = true) => hwc.old hj2 (by rw [hb, e]))
            have HC2 := Lib.hid (hwc.new hj2 hnl2)
            have HCT := Lib.hid (fun (e : b = false) => count_set' (B := B') (k := n) (by rw [hb, e]))
            have hfr := Sl.frozen hBi n
            clear hwc hj hj2 hb hnv HVV
            obtain ⟨wA, wC, hwv⟩ := Sl.any hWi
            rw [List.length_map] at hwv
            subst hwv
            cases b with
            | true =>
              go_wp2_with fail
              go_roundw
              case rel => exact ⟨m + 1, B', W', by go_num, by omega, HC1.out (by trivial), hWi, hownW, hBi, hVi, hKi, hci, hsi⟩
              case measure => simp [intOf]; omega
            | false =>
              have hkS : Kept (fun k => k = w.heap.size) wr (wr.setCell ⟨w.heap.size, n, none⟩ (.bool true)) := Kept.setCell (F := fun k => k = w.heap.size) (Kept.refl _ wr) (fun _ => rfl) _
              have hBS := Bls.set hBi (i := n) (by omega) true
              have hWS : Ints (wr.setCell ⟨w.heap.size, n, none⟩ (.bool true)) (.slice wA W'.length wC) W' := Sl.kept hkS hWi (fun g' hg' e => by have := (hownW g' hg').1; omega)
              have hne2 : ng ≠ w.heap.size := fun e => hnOwnB (by simp [Value.ownBlock, e])
              have hVS : Ints (wr.setCell ⟨w.heap.size, n, none⟩ (.bool true)) _ (N) := Sl.kept hkS hVi (fun g' hg' e => hne2 (by simp [Value.ownBlock] at hg'; omega))
              have hKS : Kept (fun _ => False) w (wr.setCell ⟨w.heap.size, n, none⟩ (.bool true)) := hKi.trans hkS (fun k hk e => by omega)
              have hcc := HCT.out (by trivial)
              have nS : (wr.setCell ⟨w.heap.size, n, none⟩ (.bool true)).cell? ⟨ng, m, none⟩ = some (.int .i64 n) := by
                have := hkS.cell (p := ⟨ng, m, none⟩) (Ints.lt hVi) (fun e => hne2 e)
                rw [this]
                exact n0
              have hszS := hkS.size
              go_wp2_with (at_builtin; go_loud (refine wpList_pushI' (w := wr.setCell ⟨w.heap.size, n, none⟩ (.bool true)) rfl (.tmp 68) (.tmp 73) rfl (.slice wA W'.length wC) W' n (n := wr.heap.size) (by simp [World.setCell]) rfl rfl hWS (by omega) ?_); intro v6 w6 hW6 hk6 hown6)
              have hB6 := Sl.kept hk6 hBS (fun g' hg' e => by have := (hownW _ e).1; simp [Value.ownBlock] at hg'; omega)
              have hV6 := Sl.kept hk6 hVS (fun g' hg' e => (hownW _ e).2 hg')
              have hK6 : Kept (fun _ => False) w w6 := hKS.trans hk6 (fun k hk e => by have := (hownW _ e).1; omega)
              have hsz6 := hk6.size
              have hngl2 := Ints.lt hVi
              go_roundw
              case rel =>
                refine ⟨m + 1, B'.set n true, W' ++ [(n : Int)], by go_num, by omega, HC2.out, hW6, fun g' hg' => ?_, hB6, hV6, hK6, by rw [List.length_append, List.length_singleton]; omega, by omega⟩
                rcases hown6 g' hg' with e | e
                · exact hownW g' e
                · exact ⟨by omega, fun e2 => by have e3 : ng = g' := Option.some.inj e2; omega⟩
              case measure => simp [intOf]; omega
      case true =>
        simp only [if_true] at HSA
        have hrg := HRG.out rfl
        rw [hrg] at HT
        clear hrg HRG
        go_wp2_with (first
          | (go_at_call 59; refine (HT.out _).mono ?_; rintro e w4 ⟨rfl, rfl⟩)
          | (at_builtin; refine wpList_pushI (w := w3) rfl (.tmp 36) (.tmp 46) rfl v2 N t rfl rfl hV30 (by omega) ?_; intro v5 w5 hV5 hk5 hown5))
        have hW50 := Sl.kept hk5 hW30 (fun g hg e => by have := hown2 _ e; simp [Value.ownBlock] at hg; omega)
        have hB50 := Sl.kept hk5 hB30 (fun g hg e => by have := hown2 _ e; simp [Value.ownBlock] at hg; omega)
        have hKW5 : Kept (fun _ => False) w w5 := hKW3.trans hk5 (fun k hk e => by have := hown2 _ e; have := hK.size; omega)
        have hsz5 := hk5.size
        have hnOwn : ∀ g, (Value.slice (some ⟨wg, 0, none⟩) W0.length cap).ownBlock = some g → ¬ v5.ownBlock = some g := fun g hg e => by
          have h5 := hown5 g e
          simp [Value.ownBlock] at hg
          rcases h5 with h5 | h5
          · have := hown2 _ h5
            omega
          · omega
        have hnOwnB : ¬ v5.ownBlock = some w.heap.size := fun e => by
          rcases hown5 _ e with h5 | h5
          · have := hown2 _ h5
            omega
          · omega
        clear f0 f1 f2 f3 f4
        have hSl : (N ++ [t]).length ≤ 3 := by rw [List.length_append, List.length_singleton]; omega
        generalize N ++ [t] = S at *
        obtain ⟨nA, nC, hnv⟩ := Sl.any hV5
        rw [List.length_map] at hnv
        subst hnv
        have hS := HSA.out
        have HSL := Lib.hid hS
        clear hS HSA
        have HVV := Lib.hid hV5
        go_wp2_with fail
        go_loopw [4, 7] (fun wv iv w5 => ∃ (m : Nat) (B' : List Bool) (W' : List Int), iv = .int .i64 m ∧ m ≤ (S).length ∧ WtC l B' W' k m ∧ Ints w5 wv W' ∧ (∀ g, wv.ownBlock = some g → w.heap.size < g ∧ (Value.slice nA (S).length nC).ownBlock ≠ some g) ∧ Bls w5 (.slice (some ⟨w.heap.size, 0, none⟩) l.length l.length) B' ∧ Ints w5 (.slice nA (S).length nC) (S) ∧ Kept (fun _ => False) w w5 ∧ W'.length + 2 * B'.count false + 1 ≤ gk ∧ w5.heap.size ≤ w5.heap.size) (fun _ iv _ => (S).length - (intOf iv).toNat)
        case atStart => exact ⟨0, B, W0, rfl, by omega, HWC.out, hW50, fun g hg => ⟨by simp [Value.ownBlock] at hg; omega, fun e => hnOwn g hg e⟩, hB50, HVV.out, hKW5, by omega, Nat.le_refl _⟩
        case round =>
          obtain ⟨m, B', W', rfl, hm, hwc, hWi, hownW, hBi, hVi, hKi, hci, hsi⟩ := hrel
          by_cases hlt : m < (S).length
          case neg =>
            obtain rfl : m = (S).length := by omega
            have hfin := hwc
            rw [← HSL.out] at hfin
            have HFIN := Lib.hid hfin.fin
            have hnd : decide ((((S).length : Nat) : Int) < (S).length) = false := decide_eq_false (by omega)
            clear hwc hfin hVi HVV
            go_wp2_with fail
            go_roundg (gk - 1)
            case measure => omega
            case rel => exact ⟨B', W', HFIN.out, hWi, fun g hg => (hownW g hg).1, hBi, hKi, by omega, by omega⟩
          case pos =>
            obtain ⟨j, hj⟩ : ∃ j, (S)[m]? = some j := ⟨_, List.getElem?_eq_getElem hlt⟩
            obtain ⟨n, rfl, hnl2⟩ := HSU.out j (by rw [HSL.out]; exact List.mem_of_getElem? hj)
            obtain ⟨ng, ncap, hnv, hngl, hncap⟩ := Sl.some_ hVi (by rw [List.length_map]; omega)
            rw [List.length_map] at hnv
            obtain ⟨rfl, -, rfl⟩ := Value.slice.inj hnv
            have n0 := Ints.cell hVi hj
            have hBl2 := hwc.len
            obtain ⟨b, hb⟩ : ∃ b, B'[n]? = some b := ⟨_, List.getElem?_eq_getElem (by omega)⟩
            have hbc := Bls.cell hBi hb
            have hbl2 : w.heap.size < wr.heap.size := Sl.lt hBi _ rfl
            have hj2 : (succL l k)[m]? = some (n : Int) := by rw [HSL.out]; exact hj
            have HC1 := Lib.hid (fun (e : b = true) => hwc.old hj2 (by rw [hb, e]))
            have HC2 := Lib.hid (hwc.new hj2 hnl2)
            have HCT := Lib.hid (fun (e : b = false) => count_set' (B := B') (k := n) (by rw [hb, e]))
            have hfr := Sl.frozen hBi n
            clear hwc hj hj2 hb hnv HVV
            obtain ⟨wA, wC, hwv⟩ := Sl.any hWi
            rw [List.length_map] at hwv
            subst hwv
            cases b with
            | true =>
              go_wp2_with fail
              go_roundw
              case rel => exact ⟨m + 1, B', W', by go_num, by omega, HC1.out (by trivial), hWi, hownW, hBi, hVi, hKi, hci, hsi⟩
              case measure => simp [intOf]; omega
            | false =>
              have hkS : Kept (fun k => k = w.heap.size) wr (wr.setCell ⟨w.heap.size, n, none⟩ (.bool true)) := Kept.setCell (F := fun k => k = w.heap.size) (Kept.refl _ wr) (fun _ => rfl) _
              have hBS := Bls.set hBi (i := n) (by omega) true
              have hWS : Ints (wr.setCell ⟨w.heap.size, n, none⟩ (.bool true)) (.slice wA W'.length wC) W' := Sl.kept hkS hWi (fun g' hg' e => by have := (hownW g' hg').1; omega)
              have hne2 : ng ≠ w.heap.size := fun e => hnOwnB (by simp [Value.ownBlock, e])
              have hVS : Ints (wr.setCell ⟨w.heap.size, n, none⟩ (.bool true)) _ (S) := Sl.kept hkS hVi (fun g' hg' e => hne2 (by simp [Value.ownBlock] at hg'; omega))
              have hKS : Kept (fun _ => False) w (wr.setCell ⟨w.heap.size, n, none⟩ (.bool true)) := hKi.trans hkS (fun k hk e => by omega)
              have hcc := HCT.out (by trivial)
              have nS : (wr.setCell ⟨w.heap.size, n, none⟩ (.bool true)).cell? ⟨ng, m, none⟩ = some (.int .i64 n) := by
                have := hkS.cell (p := ⟨ng, m, none⟩) (Ints.lt hVi) (fun e => hne2 e)
                rw [this]
                exact n0
              have hszS := hkS.size
              go_wp2_with (at_builtin; go_loud (refine wpList_pushI' (w := wr.setCell ⟨w.heap.size, n, none⟩ (.bool true)) rfl (.tmp 68) (.tmp 73) rfl (.slice wA W'.length wC) W' n (n := wr.heap.size) (by simp [World.setCell]) rfl rfl hWS (by omega) ?_); intro v6 w6 hW6 hk6 hown6)
              have hB6 := Sl.kept hk6 hBS (fun g' hg' e => by have := (hownW _ e).1; simp [Value.ownBlock] at hg'; omega)
              have hV6 := Sl.kept hk6 hVS (fun g' hg' e => (hownW _ e).2 hg')
              have hK6 : Kept (fun _ => False) w w6 := hKS.trans hk6 (fun k hk e => by have := (hownW _ e).1; omega)
              have hsz6 := hk6.size
              have hngl2 := Ints.lt hVi
              go_roundw
              case rel =>
                refine ⟨m + 1, B'.set n true, W' ++ [(n : Int)], by go_num, by omega, HC2.out, hW6, fun g' hg' => ?_, hB6, hV6, hK6, by rw [List.length_append, List.length_singleton]; omega, by omega⟩
                rcases hown6 g' hg' with e | e
                · exact hownW g' e
                · exact ⟨by omega, fun e2 => by have e3 : ng = g' := Option.some.inj e2; omega⟩
              case measure => simp [intOf]; omega

end Go.Proofs.YtdchmelgaljpfaaGreat
