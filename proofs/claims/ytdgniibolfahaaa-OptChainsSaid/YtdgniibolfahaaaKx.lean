import Derived.Test.YtdgniibolfahaaaKw
set_option linter.unusedSimpArgs false
set_option linter.unusedVariables false
namespace Go.Proofs.Ytdgniibolfahaaa
open Go.RowKit

/-! ### OptChains -/
section
variable {w : World} {ops : Array Oper} {rest : List Oper} {o : Oper} {a : Act} {Q : Exit → Act → World → Prop}
/-- 's = append(s, x)', slots -/
theorem wpList_pushN (hgd : o.guard = none) (s x : Operand) (ho : o.op = .call { callee := .builtin .append, args := #[s, x], argTypes := #[22, 22] })
    (v : Value) (L M : List In) (m : Nat) (hm : M.length = m) (hm0 : 0 < m) (hs : a.eval s = v) (hx : a.eval x = .slice (some ⟨w.heap.size, 0, none⟩) m m) (h : InS w v L) (hlen : L.length + m < 1073741824)
    (hK : ∀ v' w', InS w' v' (L ++ M) → Kept (fun k => v.ownBlock = some k) w w' → (∀ g, v'.ownBlock = some g → v.ownBlock = some g ∨ w.heap.size ≤ g) → wpList Try.prog ops Q rest (a.put o.dst v') w') :
    wpList Try.prog ops Q (o :: rest) a (w.alloc (.cells (M.map icells).flatten.toArray 37)) := by
  obtain ⟨i0, hI0, hI1, hI2, hI3⟩ := info_parts infoIn
  have hbl : (w.alloc (.cells (M.map icells).flatten.toArray 37)).heap[w.heap.size]? = some (.cells (M.map icells).flatten.toArray 37 (0, 0)) := heap_alloc_new w _
  have hfl : (M.map icells).flatten.length = m * 5 := by rw [flatten_len (fun c hc => (icells_len M c hc).1), List.length_map, hm]
  refine wpList_append_lies _ hgd s x 22 ho 0 37 i0 _ 5 12 Try.underlying22 hI0 hI1 hI2 hI3 rfl (by omega) v (L.map icells).length (L.map icells).flatten hs (h.alloc _).2 ⟨w.heap.size, 0, none⟩ m m (M.map icells).flatten hx hfl
    (fun j u hu => World.news_of_block hbl j u (by simpa using hu)) (fun y hy => by
      obtain ⟨c, hc, hyc⟩ := List.mem_flatten.1 hy
      exact (icells_len M c hc).2 y hyc) hm0 (by rw [List.length_map]; unfold maxLen; omega) (by rw [List.length_map]; omega) (Nat.zero_le _) (w.heap.size + 1) (by simp) ?_
  intro g cap w' h2 h3 h4 _
  have hl : ((L ++ M).map icells).length = (L.map icells).length + m := by simp [hm]
  refine hK _ w' ⟨fun d hd => ((icells_len (L ++ M)) d hd).1, ?_⟩ (Kept.of_grown ((Kept.refl _ w).alloc _) h3 (fun k hk _ => hk)) (fun g' hg' => ?_)
  · rw [hl, List.map_append, List.flatten_append]
    exact h2
  · have e : g = g' := Option.some.inj hg'
    subst e
    rcases h4 with h4 | rfl
    · exact .inl h4
    · exact .inr (by omega)
end
theorem cutFrom (g n c i : Nat) (hi : i ≤ n) (hnc : n ≤ c) (hlt : i < c) (w : World) : (Instr.sliceAt 22 (.slice (some ⟨g, 0, none⟩) n c) (some (.int .i64 i)) none none).run Try.prog w = .ok (.slice (some ⟨g, i * 5, none⟩) (n - i) (c - i)) w := by
  obtain ⟨i0, hI0, hI1, hI2, hI3⟩ := info_parts infoIn
  simp [Instr.sliceAt, Instr.slice, run_underlying Try.underlying22, Instr.sliceBounds, run_sliceBound, sizeOf, typeInfo, hI0, hI2, hi, hnc, hlt, add_n]
  intro h
  omega
theorem InS.from_ {w : World} {g n c i : Nat} {L M : List In} (h : InS w (.slice (some ⟨g, 0, none⟩) n c) (L ++ M)) (hi : L.length = i) : Ins w (.slice (some ⟨g, i * 5, none⟩) (n - i) (c - i)) M := by
  have hn := h.len
  rw [List.length_map, List.length_append] at hn
  have hI := h.ins
  obtain ⟨a', c', hv, hc, hcell⟩ := hI
  obtain ⟨rfl, _, rfl⟩ := Value.slice.inj hv
  rw [List.length_append] at hc
  refine ⟨_, _, by rw [show n - i = M.length by omega], by omega, fun j x hx => ?_⟩
  obtain ⟨g', off', ha, hg, hk⟩ := hcell (i + j) x (by rw [List.getElem?_append_right (by omega), hi, Nat.add_sub_cancel_left]; exact hx)
  cases ha
  refine ⟨g, i * 5, rfl, hg, fun k u hu => ?_⟩
  have := hk k u hu
  rw [show 0 + (i + j) * 5 + k = i * 5 + j * 5 + k by omega] at this
  exact this
set_option maxHeartbeats 16000000 in
set_option maxRecDepth 100000 in
theorem walk_chains (a0 : Int) (w : World) (hb : -9223372036854775808 ≤ a0 ∧ a0 ≤ 9223372036854775807) :
    Calls Try.prog 4 #[.int .i64 a0] w fun e w' => e = .returned (.bool true) ∧ Kept (fun _ => False) w w' := by
  have HKW := Lib.hid (fun W => known_any W)
  by_cases h0 : a0 < 0 ∨ 100 < a0
  · rcases h0 with h0 | h0
    · have hd : decide (a0 < 0) = true := decide_eq_true h0
      go_enter Try.func4, Try.ntmps4
      go_wp2_with fail
      refine (HKW.out _).mono ?_
      rintro e w1 ⟨rfl, hk1⟩
      go_wp2_with fail
      go_ret
      exact ⟨rfl, hk1⟩
    · have hd : decide (a0 < 0) = false := decide_eq_false (by omega)
      have hd2 : decide (100 < a0) = true := decide_eq_true h0
      go_enter Try.func4, Try.ntmps4
      go_wp2_with fail
      refine (HKW.out _).mono ?_
      rintro e w1 ⟨rfl, hk1⟩
      go_wp2_with fail
      go_ret
      exact ⟨rfl, hk1⟩
  obtain ⟨n, rfl⟩ : ∃ n : Nat, a0 = n := ⟨a0.toNat, by omega⟩
  have hn : n ≤ 100 := by omega
  have hd : decide ((n : Int) < 0) = false := decide_eq_false (by omega)
  have hd2 : decide ((100 : Int) < n) = false := decide_eq_false (by omega)
  have hd3 : decide (100 < n) = false := decide_eq_false (by omega)
  clear h0 hb
  have hok := ch_ok (n := n) (by omega)
  have hva := ch_va (n := n) (by omega)
  have hcl := ch_len n
  have hcn : (chL n).length ≤ 102 := by omega
  have HTR := Lib.hid (fun a c W hI => trim_any (chL n) a c W hI hok)
  have HTH := Lib.hid (fun a c W hI => thread_any (chL n) a c W hI hok)
  rw [ch_trim (n := n) (by omega), check_va hva] at HTR
  rw [check_va hva] at HTH
  have HNN := Lib.hid (fun av bv W hA hB => insns_any [inM 3, inE] [inM 3, inE] av bv W hA hB (by decide))
  have HII := Lib.hid (fun av bv W hA hB => ints_any [(n : Int), (n : Int) + 1] [(n : Int), (n : Int) + 1] av bv W hA hB (by simp))
  have hcl1 : n + 2 ≤ (chL n).length := by omega
  have HCL := Lib.hid hcl
  clear hok hva hcl
  go_enter Try.func4, Try.ntmps4
  go_wp2_with fail
  refine (HKW.out _).mono ?_
  rintro e w1 ⟨rfl, hk1⟩
  go_wp2_with fail
  go_loopw [3, 4] (fun lv iv wr => ∃ i : Nat, iv = .int .i64 i ∧ i ≤ n ∧ InS wr lv (List.replicate i (inJ 0)) ∧ Kept (fun _ => False) w wr ∧ ∀ g, lv.ownBlock = some g → w.heap.size ≤ g) (fun _ iv _ => n - (intOf iv).toNat)
  case atStart => exact ⟨0, rfl, by omega, Sl.nil _ _ _, hk1, fun g hg => by simp [Value.ownBlock] at hg⟩
  case round =>
    clear hk1
    obtain ⟨i, rfl, hi, hL, hK, hown⟩ := hrel
    have HOWN := Lib.hid hown
    clear hown
    by_cases hlt : i < n
    case pos =>
      have hrs : List.replicate i (inJ 0) ++ [inJ 0] = List.replicate (i + 1) (inJ 0) := by rw [← List.replicate_succ']
      have HRS := Lib.hid hrs
      have hdl : decide (i < n) = true := decide_eq_true hlt
      clear hrs
      go_wp2_with (at_builtin; refine wpList_pushN (w := wr) rfl (.tmp 24) (.tmp 26) rfl u3 (List.replicate i (inJ 0)) [inJ 0] 1 rfl (by omega) rfl rfl hL (by simp; omega) ?_; intro v5 w5 hL5 hk5 hw5)
      rw [HRS.out] at hL5
      have hsz := hK.size
      have hK5 : Kept (fun _ => False) w w5 := hK.trans hk5 (fun k hk e => by have := HOWN.out k e; omega)
      go_roundw
      case rel => exact ⟨i + 1, by go_num, by omega, hL5, hK5, fun g hg => (hw5 g hg).elim (HOWN.out g) (fun h => by omega)⟩
      case measure => simp [intOf]; omega
    case neg =>
      obtain rfl : i = n := by omega
      have hdl : decide (i < i) = false := decide_eq_false (by omega)
      have hdl2 : decide ((i : Int) < i) = false := decide_eq_false (by omega)
      clear hlt hi
      go_wp2_with (at_builtin; refine wpList_pushN (w := wr) rfl (.tmp 28) (.tmp 31) rfl u3 (List.replicate i (inJ 0)) [inM 3, inE] 2 rfl (by omega) rfl rfl hL (by simp; omega) ?_; intro v5 w5 hL5 hk5 hw5)
      have hsz := hK.size
      have hK5 : Kept (fun _ => False) w w5 := hK.trans hk5 (fun k hk e => by have := HOWN.out k e; omega)
      have hL6 : InS w5 v5 (chL i) := hL5
      obtain ⟨lg, lc, hlv, hlc, hlg⟩ := Sl.some_ hL6 (by rw [List.length_map]; omega)
      rw [List.length_map] at hlv hlc
      subst hlv
      have HL := Lib.hid (fun (W : World) (hk : Kept (fun _ => False) w5 W) => (Sl.kept hk hL6 (fun _ _ h => h) : InS W (.slice (some ⟨lg, 0, none⟩) (chL i).length lc) (chL i)))
      have HIC := Lib.hid (fun (W : World) (hk : Kept (fun _ => False) w5 W) => InS.from_ (L := List.replicate i (inJ 0)) (M := [inM 3, inE]) (i := i) (HL.out W hk) (by simp))
      have HCH := Lib.hid (fun u (hu : Thr (chL i) u) j (hj : j < i) => ch_thr (n := i) (by omega) hu hj)
      clear hL hK hk5 hw5 HOWN hsz hL5 hL6
      generalize chL i = L at *
      refine (HTR.out _ _ _ (InS.ins (HL.out _ (Kept.refl _ _)))).mono ?_
      rintro e w6 ⟨tv, nv, rfl, hT, hN, hk6, -, -⟩
      go_wp2_with fail
      refine (HTH.out _ _ _ (InS.ins (HL.out _ hk6))).mono ?_
      rintro e w7 ⟨uv, u, rfl, hU, -, hu, hk7, -⟩
      have hk67 := hk6.trans hk7 (fun _ _ h => h)
      have hThr := thr_of (hu (by first | rfl | trivial))
      have hT7 := Sl.kept hk7 hT (fun _ _ h => h)
      have hN7 := Sl.kept hk7 hN (fun _ _ h => h)
      have hcut := cutFrom lg L.length lc i (by omega) hlc (by omega)
      have hIc := HIC.out _ hk67
      have hul := hThr.len
      have HUL := Lib.hid hul
      obtain ⟨ug, uc, huv, _, hugl⟩ := Sl.some_ hU (by rw [List.length_map]; omega)
      rw [List.length_map, hul] at huv
      subst huv
      clear hul
      have HTHR := Lib.hid hThr
      have hK7 := hK5.trans hk67 (fun _ _ h => h)
      have hI1 := Lib.hid (HNN.out _ _ _ (InS.ins hT7) hIc)
      have hne : (((L.length : Nat) : Int) != (L.length : Int)) = false := by simp
      clear hT hN hk6 hk7 hIc hu hThr hT7
      go_wp2_with fail
      refine hI1.out.mono ?_
      rintro e w8 ⟨r, rfl, hr, hk8⟩
      have hr : r = true := hr.2 (by first | rfl | trivial)
      subst hr
      have hN8 := Sl.kept hk8 hN7 (fun _ _ h => h)
      have hU8 := Sl.kept hk8 hU (fun _ _ h => h)
      have hK8 := hK7.trans hk8 (fun _ _ h => h)
      go_wp2_with fail
      refine (HII.out _ _ _ (hN8.alloc _) (ints_two w8 i ((i : Int) + 1))).mono ?_
      rintro e w9 ⟨r, rfl, hr, hk9⟩
      have hr : r = true := hr.2 (by first | rfl | trivial)
      subst hr
      have hU9 := Sl.kept hk9 (hU8.alloc _) (fun _ _ h => h)
      have hK9 := (hK8.alloc _).trans hk9 (fun _ _ h => h)
      clear hcut hI1 HNN HII hN7 hN8 hU hU8 hk8 hk9
      go_wp2_with fail
      go_loopw [10] (fun jv wr => ∃ j : Nat, jv = .int .i64 j ∧ j ≤ i ∧ Kept (fun _ => False) w9 wr) (fun jv _ => i - (intOf jv).toNat)
      case atStart => exact ⟨0, rfl, by omega, Kept.refl _ _⟩
      case round =>
        obtain ⟨j, rfl, hj, hkj⟩ := hrel
        by_cases hlt : j < i
        case neg =>
          obtain rfl : j = i := by omega
          have hdj : decide (j < j) = false := decide_eq_false (by omega)
          have hdj2 : decide ((j : Int) < j) = false := decide_eq_false (by omega)
          go_wp2_with fail
          go_ret
          exact ⟨rfl, hK9.trans hkj (fun _ _ h => h)⟩
        case pos =>
          have huj := HCH.out u HTHR.out j hlt
          have hyc : (u.map icells)[j]? = some (icells (inJ ((i : Int) - j - 1))) := by rw [List.getElem?_map, huj]; rfl
          have hUj := Sl.kept hkj hU9 (fun _ _ h => h)
          have c0 : wr.cell? ⟨ug, j * 5, none⟩ = some (.int .u8 5) := Sl.cell hUj hyc (k := 0) (by omega)
          have c1 : wr.cell? ⟨ug, j * 5 + 1, none⟩ = some (.int .u8 0) := Sl.cell hUj hyc (k := 1) (by omega)
          have c2 : wr.cell? ⟨ug, j * 5 + 2, none⟩ = some (.int .u8 0) := Sl.cell hUj hyc (k := 2) (by omega)
          have c3 : wr.cell? ⟨ug, j * 5 + 3, none⟩ = some (.int .i16 ((i : Int) - j - 1)) := Sl.cell hUj hyc (k := 3) (by omega)
          have c4 : wr.cell? ⟨ug, j * 5 + 4, none⟩ = some (.int .i32 0) := Sl.cell hUj hyc (k := 4) (by omega)
          have hdj : decide (j < i) = true := decide_eq_true hlt
          have hgd : ∀ W a b, (eqGuard .neq 37 a b (.agg #[.int .u8 5, .int .u8 0, .int .u8 0, .int .i16 ((i : Int) - j - 1), .int .i32 0]) (.agg #[.int .u8 5, .int .u8 0, .int .u8 0, .int .i16 ((i : Int) - j - 1), .int .i32 0])).run Try.prog W = .ok () W := fun W a b => guardIn_run .neq a b (inJ ((i : Int) - j - 1)) (inJ ((i : Int) - j - 1)) W
          have hnq : ∀ W, (binOp .neq 37 (.agg #[.int .u8 5, .int .u8 0, .int .u8 0, .int .i16 ((i : Int) - j - 1), .int .i32 0]) (.agg #[.int .u8 5, .int .u8 0, .int .u8 0, .int .i16 ((i : Int) - j - 1), .int .i32 0])).run Try.prog W = .ok (.bool false) W := fun W => by
            have := neqIn_run (inJ ((i : Int) - j - 1)) (inJ ((i : Int) - j - 1)) W
            rw [(eqIn_iff _ _).2 rfl] at this
            exact this
          clear huj hyc hUj
          go_wp2_with fail
          go_roundw
          case rel => exact ⟨j + 1, by go_num, by omega, hkj⟩
          case measure => simp [intOf]; omega

end Go.Proofs.Ytdgniibolfahaaa
