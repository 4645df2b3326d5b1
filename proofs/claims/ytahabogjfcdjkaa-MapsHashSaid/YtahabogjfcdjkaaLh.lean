import Derived.Test.YtahabogjfcdjkaaHc
import Derived.Test.YtahabogjfcdjkaaMg
import Derived.Test.YtahabogjfcdjkaaKe
set_option linter.unusedSimpArgs false
set_option linter.unusedVariables false
namespace Go.Proofs.Ytahabogjfcdjkaa
open Go.RowKit

theorem naStr : ∀ w, (isAgg 9).run Try.prog w = .ok false w := fun w => by kernel_rfl
theorem run_eql_sV {P : Program} (t : TypeId) (a b : List UInt8) (w : World) : (binOp .eql t (sV a) (sV b)).run P w = .ok (.bool (a == b)) w := by
  unfold sV
  rw [binOp_string_eql]
  have : ∀ l : List UInt8, (ByteArray.mk l.toArray).toList = l := fun l => by rw [Lib.toList_data]
  rw [this, this]
  rfl
theorem len_sV {P : Program} {st : TypeId} (hst : P.underlying st = some .string) (l : List UInt8) (ty : TypeId) (W : World) : (Builtin.len_ #[st] ty #[sV l]).run P W = .ok (.int .i64 l.length) W := by
  have hsz : (ByteArray.mk l.toArray).size = l.length := by simp [ByteArray.size]
  simp [Builtin.len_, sV, run_underlying hst, Result.andThen, -ByteArray.size_data]
  rw [hsz]
  rfl
theorem naBytes : ∀ w, (isAgg 33).run Try.prog w = .ok false w := fun w => by kernel_rfl
theorem keys_nodup' {w : World} {x : Loc} {S : MS} {L : List Rg} (h : Mp w x S L) : (S.ent.map (·.1)).Nodup := by
  obtain ⟨es, clock, _, heq, hst⟩ := h.map
  have h1 := congrArg (List.map (·.1)) heq
  simp only [List.map_map] at h1
  have h2 : (S.ent.map fun y => sV y.1).Nodup := by
    have := hst.2.2
    rw [show (es.toList.map (·.key)) = es.toList.map ((fun x => x.1) ∘ fun e : MapEntry => (e.key, e.val)) from rfl, h1] at this
    unfold MS.vals at this
    rw [List.map_map] at this
    exact this
  refine List.pairwise_map.2 ((List.pairwise_map.1 h2).imp fun hne e => hne (by rw [e]))

set_option maxHeartbeats 40000000 in
set_option maxRecDepth 100000 in
theorem walk_hash (en : Int) (a : Option Addr) (c : Nat) (ll : List Hs) (w : World) (hw : (Lit.int .i64 en).wf = true) (hin : InHs w a ll) (hm : ll.length ≤ maxLen) :
    Calls Try.prog 6 #[.int .i64 en, .slice a ll.length c] w fun e w' => e = .returned (.bool true) ∧ Kept (fun _ => False) w w' := by
  obtain ⟨s0, hS0, hS1, hS2, hS3⟩ := info_parts infoS
  obtain ⟨i0, hI0, hI1, hI2, hI3⟩ := info_parts infoI
  cases hfw : fewB ll with
  | false =>
    go_enter Try.func6, Try.ntmps6
    go_wp2_with fail
    refine (known_any w).mono ?_
    rintro e w1 ⟨rfl, hk1⟩
    go_wp2_with fail
    refine (few_any a c ll w1 (hin.kept hk1) hm).mono ?_
    rintro e w2 ⟨rfl, rfl⟩
    rw [hfw]
    go_wp2_with fail
    go_ret
    exact ⟨rfl, hk1⟩
  | true =>
  by_cases h1 : en < 1
  · go_enter Try.func6, Try.ntmps6
    go_wp2_with fail
    refine (known_any w).mono ?_
    rintro e w1 ⟨rfl, hk1⟩
    go_wp2_with fail
    refine (few_any a c ll w1 (hin.kept hk1) hm).mono ?_
    rintro e w2 ⟨rfl, rfl⟩
    rw [hfw]
    go_wp2_with fail
    go_ret
    exact ⟨rfl, hk1⟩
  by_cases h2 : 64 < en
  · go_enter Try.func6, Try.ntmps6
    go_wp2_with fail
    refine (known_any w).mono ?_
    rintro e w1 ⟨rfl, hk1⟩
    go_wp2_with fail
    refine (few_any a c ll w1 (hin.kept hk1) hm).mono ?_
    rintro e w2 ⟨rfl, rfl⟩
    rw [hfw]
    go_wp2_with fail
    go_ret
    exact ⟨rfl, hk1⟩
  have h50 : ll.length ≤ 50 := by
    unfold fewB at hfw
    simp only [Bool.and_eq_true, decide_eq_true_eq] at hfw
    exact hfw.2
  go_enter Try.func6, Try.ntmps6
  go_wp2_with fail
  refine (known_any w).mono ?_
  rintro e w1 ⟨rfl, hk1⟩
  go_wp2_with fail
  refine (few_any a c ll w1 (hin.kept hk1) hm).mono ?_
  rintro e w2 ⟨rfl, rfl⟩
  rw [hfw]
  go_wp2_with fail
  refine (memNew_any w2).mono ?_
  rintro e w3 ⟨rfl, hm2, hbl2, hk2, hz2⟩
  go_wp2_with fail
  refine (new_hash (dfH en) w2.heap.size (.slice none 0 0) [] w3 hm2 rfl (defHash (by decide) (by decide) (by omega) (by omega))).mono ?_
  rintro e w4 ⟨q, m, rfl, hM4, hq, hm4, hk3⟩
  have hK4 : Kept (fun _ => False) w w4 := (hk1.trans hk2 (fun _ _ h => h)).trans hk3 (fun _ _ h => h)
  have hfp : ∀ k, fpMp (⟨q, w2.heap.size, m, .slice none 0 0, .slice none 0 0⟩ : Loc) [] k → w.heap.size ≤ k := fun k hk => by
    have := hk1.size
    have := hk2.size
    rcases hk with h | h | h | h
    · simp only at h; omega
    · simp only at h; omega
    · simp [Value.ownBlock] at h
    · rw [hbl2] at h
      have := List.mem_singleton.1 h
      omega
  go_wp2_with fail
  generalize w2.heap.size = mp at *
  clear hk1 hm2 hbl2 hk2 hz2 hk3 hq hm4
  go_loopw [11, 8, 9, 10] (fun iv kv vv dv wr => ∃ (i : Nat) (v1 : Value) (E : List (List UInt8 × Int)) (V : List (List UInt8)) (L1 : List Rg), iv = .int .i64 i ∧ i ≤ ll.length ∧ L1.length ≤ i ∧ E.length ≤ L1.length ∧ (E.length : Int) ≤ en ∧
    Mp wr ⟨q, mp, m, .slice none 0 0, v1⟩ ⟨⟨2, 2, 3, en, false, 0⟩, E, []⟩ L1 ∧ HI en E V L1 ∧ T3 wr (fpMp (⟨q, mp, m, .slice none 0 0, v1⟩ : Loc) L1) w.heap.size kv vv dv (E.map fun y => [sV y.1]) (V.map fun l => [sV l]) (E.map fun y => [Value.int .i64 y.2]) ∧ (∀ k, fpMp (⟨q, mp, m, .slice none 0 0, v1⟩ : Loc) L1 k → w.heap.size ≤ k) ∧ Kept (fun _ => False) w wr) (fun iv _ _ _ _ => ll.length - (intOf iv).toNat)
  case atStart => exact ⟨0, .slice none 0 0, [], [], [], rfl, Nat.zero_le _, Nat.zero_le _, Nat.le_refl _, by simp; omega, hM4, HI.nil _, T3.nil _ _ _, hfp, hK4⟩
  case round =>
    clear hM4 hfp hK4
    obtain ⟨i, v1, E, V, L1, rfl, hi, hL, hEL, hEn, hM, hH, hT, hfp, hK⟩ := hrel
    obtain ⟨kA, kC, hkv⟩ := hT.k.any
    obtain ⟨vA, vC, hvv⟩ := hT.v.any
    obtain ⟨dA, dC, hdv⟩ := hT.i.any
    simp only [List.length_map, hH.len] at hkv hvv hdv
    subst hkv
    subst hvv
    subst hdv
    by_cases hlt : i < ll.length
    case neg =>
      obtain rfl : i = ll.length := by omega
      go_wp2_with fail
      refine (keys_any _ _ _ wr hM (by show (2 : Int) ≠ 3; decide)).mono ?_
      rintro e w5 ⟨ov, R, rfl, hS, hBy, hperm, hsorted, _, hk5⟩
      have hK5 := hK.trans hk5 (fun _ _ h => h)
      obtain ⟨A, c, hov⟩ := hS.any
      have hRl : R.length = E.length := by
        have := hperm.length_eq
        simpa using this
      rw [List.length_map, hRl] at hov
      subst hov
      go_wp2_with fail
      go_ret
      exact ⟨rfl, hK5⟩
    case pos =>
      obtain ⟨s, hs⟩ : ∃ s, ll[i]? = some s := ⟨_, List.getElem?_eq_getElem hlt⟩
      obtain ⟨g, off, ka, kc, va, vc, rfl, hg0, b0, b1, b2, b3, b4, l1, l2, hBk0, hBv0⟩ := hin i s hs
      have hcw : ∀ j, wr.cell? ⟨g, j, none⟩ = w.cell? ⟨g, j, none⟩ := fun j => hK.cell (p := ⟨g, j, none⟩) hg0 (fun h => h)
      have hg : g < wr.heap.size := Nat.lt_of_lt_of_le hg0 hK.size
      have c0 := (hcw _).trans b0
      have c2 := (hcw _).trans b2
      have c3 := (hcw _).trans b3
      clear b0 b1 b2 b3 b4 hcw
      have hBk := hBk0.kept hK
      have hBv := hBv0.kept hK
      have hnd := keys_nodup' hM
      simp only at hnd
      have hMd := hM.drew
      have hTd := hT.drew
      have hKd := hK.drew
      have hgd : g < wr.drew.heap.size := hg
      have hd0 : wr.drew.cell? ⟨g, off + i * 5, none⟩ = some (.int .i64 s.what) := c0
      have hd2 : wr.drew.cell? ⟨g, off + i * 5 + 2, none⟩ = some (.slice ka s.k.length kc) := c2
      have hd3 : wr.drew.cell? ⟨g, off + i * 5 + 3, none⟩ = some (.slice va s.v.length vc) := c3
      have hBkd : InB wr.drew ka s.k := hBk.kept ((Kept.refl _ wr).drew)
      have hBvd : InB wr.drew va s.v := hBv.kept ((Kept.refl _ wr).drew)
      have hcvk : (convert 33 9 (.slice ka s.k.length kc)).run Try.prog wr.drew = .ok (sV s.k) wr.drew := hBkd.conv l1
      have hcvv : (convert 33 9 (.slice va s.v.length vc)).run Try.prog wr.drew = .ok (sV s.v) wr.drew := hBvd.conv l2
      go_wp2_with fail
      refine wp_region_mix0 [.w, .w, .w, .w, .l, .l, .w, .w, .w, .w, .l, .l, .w, .w] (by kernel_rfl) (by kernel_rfl) ?_
      repeat (first
        | (refine mix_w1 ?_; go_big_quiet_step (fail); refine wpQuiet_nil ?_)
        | (refine mix_l1 rfl ?_; go_big_quiet_step (fail); refine wpQuiet_nil ?_)
        | (refine mix_t fun Q' hQ' => ?_; go_wp2))
      refine mix_done ?_
      go_wp2_with fail
      generalize wr.drew = wd at *
      clear hM hT hK hBk hBv c0 c2 c3
      go_loopw [15, 14] (fun nv av wx => ∃ (n : Nat) (at_ : Int), nv = .int .i64 n ∧ av = .int .i64 at_ ∧ n ≤ E.length ∧ Found E s.k n at_ ∧ wx = wd) (fun nv _ _ => E.length - (intOf nv).toNat)
      case atStart => exact ⟨0, -1, rfl, rfl, Nat.zero_le _, Found.zero _ _, rfl⟩
      case round =>
        obtain ⟨n, at_, rfl, rfl, hn, hF, hwx⟩ := hrel
        subst hwx
        by_cases hnl : n < E.length
        case pos =>
          obtain ⟨y, hy⟩ : ∃ y, E[n]? = some y := ⟨_, List.getElem?_eq_getElem hnl⟩
          obtain ⟨gk, kC', hkv, hkcap, hgk⟩ := hTd.k.some_ (by simp; omega)
          obtain ⟨rfl, -, rfl⟩ := Value.slice.inj hkv
          have hcy : wr.cell? ⟨gk, n, none⟩ = some (sV y.1) := by
            have := hTd.k.cell (i := n) (c := [sV y.1]) (by simp [hy]) (k := 0) (by omega)
            simpa using this
          have hgd : ∀ (x y : Operand) (a b : List UInt8) (W : World), (eqGuard .eql 9 x y (sV a) (sV b)).run Try.prog W = .ok () W := fun _ _ _ _ _ => rfl
          by_cases e : y.1 = s.k
          · have heq := run_eql_sV (P := Try.prog) 9 s.k s.k
            rw [show (s.k == s.k) = true by simp] at heq
            rw [e] at hcy
            have E0 := Lib.hid e
            clear e
            go_wp2_with fail
            go_roundw
            case rel => exact ⟨n + 1, (n : Int), by go_num, rfl, by omega, Found.hit hy E0.out, trivial⟩
            case measure => simp [intOf]; omega
          · have heq := run_eql_sV (P := Try.prog) 9 y.1 s.k
            rw [show (y.1 == s.k) = false by simpa using e] at heq
            go_wp2_with fail
            go_roundw
            case rel => exact ⟨n + 1, at_, by go_num, rfl, by omega, Found.miss hF hy e, trivial⟩
            case measure => simp [intOf]; omega
        case neg =>
          obtain rfl : n = E.length := by omega
          have hFA := Found.all hnd hF
          clear hF
          by_cases hwh : s.what = 3
          · rw [hwh] at hd0
            by_cases hk2 : s.k.length = 2
            · have hby := hBkd.by2 (by omega) l1
              have hask : asksC (⟨2, 2, 3, en, false, 0⟩ : Df) s.k.length = 0 := by rw [hk2]; rfl
              have HK2 := Lib.hid hk2
              clear hk2
              rcases hFA with ⟨rfl, hnone⟩ | ⟨j, id, rfl, hj, hlk, hdel⟩
              · as_aux_lemma =>
                  go_wp2_with fail
                  refine (delete_none _ _ _ _ s.k wr hMd hby.1 hask (by show (2 : Int) ≠ 1; decide) hnone).mono ?_
                  rintro e w5 ⟨rfl, rfl⟩
                  go_wp2_with fail
                  exact ⟨⟨i + 1, v1, E, V, L1, by go_num, by omega, by omega, hEL, hEn, hMd.drew, hH, hTd.drew, hfp, hKd.drew⟩, by simp [intOf]; omega⟩
              · as_aux_lemma =>
                  go_wp2_with fail
                  refine (delete_has _ _ _ _ s.k wr hMd hby.1 hask (by show (2 : Int) ≠ 1; decide) hlk).mono ?_
                  rintro e w5 ⟨rfl, hM5, hk5⟩
                  simp only [hdel] at hM5
                  have hjl : j < E.length := (List.getElem?_eq_some_iff.1 hj).1
                  have hT5 := hTd.kept (hk5.mono (fun n _ e => .inr (.inl e)))
                  have hK5 := hKd.trans hk5 (fun k hk e => by have := hfp m (.inr (.inl rfl)); have e : k = m := e; omega)
                  have hlV := hH.len
                  obtain ⟨gk, kC', hkv, hkcap, hgk⟩ := hT5.k.some_ (by simp; omega)
                  obtain ⟨rfl, -, rfl⟩ := Value.slice.inj hkv
                  obtain ⟨gv, vC', hvv, hvcap, hgv⟩ := hT5.v.some_ (by simp; omega)
                  obtain ⟨rfl, -, rfl⟩ := Value.slice.inj hvv
                  obtain ⟨gd, dC', hdv, hdcap, hgd2⟩ := hT5.i.some_ (by simp; omega)
                  obtain ⟨rfl, -, rfl⟩ := Value.slice.inj hdv
                  clear hkv hvv hdv
                  simp only [List.length_map] at hkcap hvcap hdcap
                  rw [hlV] at hvcap
                  have hci : w5.cell? ⟨gd, j, none⟩ = some (.int .i64 id) := by
                    have := hT5.i.cell (i := j) (c := [.int .i64 id]) (by simp [hj]) (k := 0) (by omega)
                    simpa using this
                  have hcj : ((j + 1 : Nat) : Int) = (j : Int) + 1 := by omega
                  have hs1 := cutHead1 Try.underlying53 hS0 gk E.length kC j (by omega)
                  obtain ⟨ad1, hs2, had1⟩ := cutTail1 Try.underlying53 hS0 hS2 gk E.length kC (j + 1) (by omega)
                  have hs3 := cutHead1 Try.underlying53 hS0 gv E.length vC j (by omega)
                  obtain ⟨ad2, hs4, had2⟩ := cutTail1 Try.underlying53 hS0 hS2 gv E.length vC (j + 1) (by omega)
                  have hs5 := cutHead1 Try.underlying54 hI0 gd E.length dC j (by omega)
                  obtain ⟨ad3, hs6, had3⟩ := cutTail1 Try.underlying54 hI0 hI2 gd E.length dC (j + 1) (by omega)
                  rw [hcj] at hs2 hs4 hs6
                  have hFl : ∀ n, fpMp (⟨q, mp, m, .slice none 0 0, v1⟩ : Loc) L1 n → n < w5.heap.size := fun n hn => hM5.lt hn
                  have hbs := hK5.size
                  go_wp2_with fail
                  refine wp_region_mix0 [.w, .w, .w, .w, .w, .w, .w, .w, .t, .w] (by kernel_rfl) (by kernel_rfl) ?_
                  repeat (refine mix_w1 ?_; go_big_quiet_step (fail); refine wpQuiet_nil ?_)
                  refine mix_t fun Q' hQ' => ?_
                  refine wpList_cutG (w := w5.drew) rfl (.tmp 124) (.tmp 128) 53 rfl Try.underlying53 hS0 hS1 hS2 hS3 rfl (by omega) gk E.length kC j (E.map fun y => [sV y.1]) ad1 (kC - (j + 1)) rfl rfl (fun h => had1 (by omega)) (hT5.drew.k) (by omega) (by simp; omega) (by omega) ?_
                  intro g6 cap6 w6 hS6 hk6 hg6
                  refine hQ' _ _ ?_
                  clear hQ' Q'
                  simp only [Act.put, List.setIfInBounds_toArray, List.set_cons_succ, List.set_cons_zero]
                  refine mix_w1 ?_
                  go_big_quiet_step (fail)
                  refine wpQuiet_nil ?_
                  refine mix_done ?_
                  have hT6 := hT5.drew.setK hFl hbs (hk6.mono (fun _ _ e => e.elim)) hS6 (fun g hg => by
                    simp only [Value.ownBlock, Option.some.injEq] at hg ⊢
                    subst hg
                    rcases hg6 with e | e
                    · exact .inl e.symm
                    · exact .inr e)
                  have hK6 := hK5.drew.trans hk6 (fun _ _ h => h)
                  have hM6 := hM5.drew.quiet hk6
                  have hFl6 : ∀ n, fpMp (⟨q, mp, m, .slice none 0 0, v1⟩ : Loc) L1 n → n < w6.heap.size := fun n hn => hM6.lt hn
                  have hbs6 := hK6.size
                  clear hT5 hM5 hk6 hS6 hg6 hci
                  go_wp2_with fail
                  refine wp_region_mix0 [.w, .w, .w, .w, .w, .w, .w, .w, .t, .w] (by kernel_rfl) (by kernel_rfl) ?_
                  repeat (refine mix_w1 ?_; go_big_quiet_step (fail); refine wpQuiet_nil ?_)
                  refine mix_t fun Q' hQ' => ?_
                  refine wpList_cutG (w := w6.drew) rfl (.tmp 133) (.tmp 137) 53 rfl Try.underlying53 hS0 hS1 hS2 hS3 rfl (by omega) gv E.length vC j (V.map fun l => [sV l]) ad2 (vC - (j + 1)) rfl rfl (fun h => had2 (by omega)) ((by simpa [hlV] using hT6.drew.v)) (by omega) (by simp; omega) (by omega) ?_
                  intro g7 cap6 w7 hS6 hk6 hg6
                  refine hQ' _ _ ?_
                  clear hQ' Q'
                  simp only [Act.put, List.setIfInBounds_toArray, List.set_cons_succ, List.set_cons_zero]
                  refine mix_w1 ?_
                  go_big_quiet_step (fail)
                  refine wpQuiet_nil ?_
                  refine mix_done ?_
                  have hT7 := hT6.drew.setV hFl6 hbs6 (hk6.mono (fun _ _ e => e.elim)) hS6 (fun g hg => by
                    simp only [Value.ownBlock, Option.some.injEq] at hg ⊢
                    subst hg
                    rcases hg6 with e | e
                    · exact .inl e.symm
                    · exact .inr e)
                  have hK7 := hK6.drew.trans hk6 (fun _ _ h => h)
                  have hM7 := hM6.drew.quiet hk6
                  have hFl7 : ∀ n, fpMp (⟨q, mp, m, .slice none 0 0, v1⟩ : Loc) L1 n → n < w7.heap.size := fun n hn => hM7.lt hn
                  have hbs7 := hK7.size
                  clear hT6 hM6 hk6 hS6 hg6
                  go_wp2_with fail
                  refine wp_region_mix0 [.w, .w, .w, .w, .w, .w, .w, .w, .t, .w] (by kernel_rfl) (by kernel_rfl) ?_
                  repeat (refine mix_w1 ?_; go_big_quiet_step (fail); refine wpQuiet_nil ?_)
                  refine mix_t fun Q' hQ' => ?_
                  refine wpList_cutG (w := w7.drew) rfl (.tmp 142) (.tmp 146) 54 rfl Try.underlying54 hI0 hI1 hI2 hI3 rfl (by omega) gd E.length dC j (E.map fun y => [Value.int .i64 y.2]) ad3 (dC - (j + 1)) rfl rfl (fun h => had3 (by omega)) (hT7.drew.i) (by omega) (by simp; omega) (by omega) ?_
                  intro g8 cap6 w8 hS6 hk6 hg6
                  refine hQ' _ _ ?_
                  clear hQ' Q'
                  simp only [Act.put, List.setIfInBounds_toArray, List.set_cons_succ, List.set_cons_zero]
                  refine mix_w1 ?_
                  go_big_quiet_step (fail)
                  refine wpQuiet_nil ?_
                  refine mix_done ?_
                  have hT8 := hT7.drew.setI hFl7 hbs7 (hk6.mono (fun _ _ e => e.elim)) hS6 (fun g hg => by
                    simp only [Value.ownBlock, Option.some.injEq] at hg ⊢
                    subst hg
                    rcases hg6 with e | e
                    · exact .inl e.symm
                    · exact .inr e)
                  have hK8 := hK7.drew.trans hk6 (fun _ _ h => h)
                  have hM8 := hM7.drew.quiet hk6
                  clear hT7 hM7 hk6 hS6 hg6
                  go_wp2_with fail
                  exact ⟨⟨i + 1, v1, E.take j ++ E.drop (j + 1), V.take j ++ V.drop (j + 1), L1, by go_num, by omega, by omega, by simp; omega, by simp; omega, hM8, hH.cut hjl, by simpa [List.map_take, List.map_drop] using hT8, hfp, hK8⟩, by simp [intOf]; omega⟩
            · have hask : asksC (⟨2, 2, 3, en, false, 0⟩ : Df) s.k.length ≠ 0 := by unfold asksC; simp; omega
              have hask2 : asksC (⟨2, 2, 3, en, false, 0⟩ : Df) s.k.length = 91 := by unfold asksC; simp; omega
              rcases hFA with ⟨rfl, hnone⟩ | ⟨j, id, rfl, hj, hlk, hdel⟩
              · go_wp2_with fail
                refine (delete_klen _ _ _ ka s.k.length kc wr hMd hask).mono ?_
                rw [hask2]
                rintro e w5 ⟨rfl, rfl⟩
                go_wp2_with fail
                exact ⟨⟨i + 1, v1, E, V, L1, by go_num, by omega, by omega, hEL, hEn, hMd, hH, hTd, hfp, hKd⟩, by simp [intOf]; omega⟩
              · exact absurd (hH.k2 _ (List.mem_of_getElem? hj)).1 hk2
          · have e3 : (s.what == 3) = false := by simpa using hwh
            have hld : ∀ (l : List UInt8) (ty : TypeId) (W : World), (Builtin.len_ #[9] ty #[sV l]).run Try.prog W = .ok (.int .i64 l.length) W := len_sV Try.underlying9
            by_cases hk2 : s.k.length = 2
            case neg =>
              have e2 : ((s.k.length : Int) == 2) = false := by simp; omega
              have hask : asksC (⟨2, 2, 3, en, false, 0⟩ : Df) s.k.length ≠ 0 := by unfold asksC; simp; omega
              have hask2 : asksC (⟨2, 2, 3, en, false, 0⟩ : Df) s.k.length = 91 := by unfold asksC; simp; omega
              rcases hFA with ⟨rfl, hnone⟩ | ⟨j, id, rfl, hj, hlk, hdel⟩
              · as_aux_lemma =>
                  go_wp2_with fail
                  refine wp_region_mix0 [.w, .w, .w, .w, .w, .l, .w, .w, .w, .w, .l, .t, .w] (by kernel_rfl) (by kernel_rfl) ?_
                  repeat (first
                    | (refine mix_w1 ?_; go_big_quiet_step (fail); refine wpQuiet_nil ?_)
                    | (refine mix_l1 rfl ?_; go_big_quiet_step (fail); refine wpQuiet_nil ?_))
                  refine mix_t fun Q' hQ' => ?_
                  go_wp2_with fail
                  refine (update_klen _ _ _ ka s.k.length kc _ 0 wr.drew hMd.drew hask).mono ?_
                  rw [hask2]
                  rintro e w5 ⟨rfl, rfl⟩
                  go_wp2_with fail
                  refine mix_w1 ?_
                  go_big_quiet_step (fail)
                  refine wpQuiet_nil ?_
                  refine mix_done ?_
                  go_wp2_with fail
                  exact ⟨⟨i + 1, v1, E, V, L1, by go_num, by omega, by omega, hEL, hEn, hMd.drew, hH, hTd.drew, hfp, hKd.drew⟩, by simp [intOf]; omega⟩
              · exact absurd (hH.k2 _ (List.mem_of_getElem? hj)).1 hk2
            case pos =>
            have e2 : ((s.k.length : Int) == 2) = true := by simp; omega
            have hask : asksC (⟨2, 2, 3, en, false, 0⟩ : Df) s.k.length = 0 := by rw [hk2]; rfl
            have hbyw := hBk0.by2 (by omega) l1
            have HK2 := Lib.hid hk2
            clear hk2
            have hby := (hbyw.1.kept hKd (fun _ _ h => h))
            by_cases hv3 : s.v.length = 3
            case neg =>
              have e4 : ((s.v.length : Int) == 3) = false := by simp; omega
              rcases hFA with ⟨rfl, hnone⟩ | ⟨j, id, rfl, hj, hlk, hdel⟩
              all_goals
                go_wp2_with fail
                refine wp_region_mix0 [.w, .w, .w, .w, .w, .l, .w, .w, .w, .w, .l, .t, .w] (by kernel_rfl) (by kernel_rfl) ?_
                repeat (first
                  | (refine mix_w1 ?_; go_big_quiet_step (fail); refine wpQuiet_nil ?_)
                  | (refine mix_l1 rfl ?_; go_big_quiet_step (fail); refine wpQuiet_nil ?_))
                refine mix_t fun Q' hQ' => ?_
                go_wp2_with fail
                refine (update_vlen _ _ _ _ va s.v.length vc s.k 0 wr.drew hMd.drew hby.drew hask (by show (s.v.length : Int) ≠ 3; omega)).mono ?_
                rintro e w5 ⟨rfl, rfl⟩
                go_wp2_with fail
                refine mix_w1 ?_
                go_big_quiet_step (fail)
                refine wpQuiet_nil ?_
                refine mix_done ?_
                go_wp2_with fail
                exact ⟨⟨i + 1, v1, E, V, L1, by go_num, by omega, by omega, hEL, hEn, hMd.drew.drew, hH, hTd.drew.drew, hfp, hKd.drew.drew⟩, by simp [intOf]; omega⟩
            case pos =>
            have e4 : ((s.v.length : Int) == 3) = true := by simp; omega
            have hbvw := hBv0.by2 (by omega) l2
            have hbv := (hbvw.1.kept hKd (fun _ _ h => h))
            have hkx : ∀ k, (Value.slice ka s.k.length kc).ownBlock = some k → k ∉ blM mp v1 L1 := fun k hk h => by
              have h1 := hfp k (.inr (.inr (.inr h)))
              have h2 := hbyw.2 k hk
              omega
            have hv3' : s.v.length ≤ 1000000 ∧ 0 < s.v.length ∧ (s.v.length : Int) = 3 := by omega
            clear hv3
            have hU := update_all (⟨q, mp, m, .slice none 0 0, v1⟩ : Loc) (⟨⟨2, 2, 3, en, false, 0⟩, E, []⟩ : MS) L1 _ _ s.k s.v 0 wr.drew hMd.drew hby.drew hkx hbv.drew hask hv3'.2.2 (Nat.zero_le _) hv3'.2.1 hv3'.1 (by omega) (by show E.length < 1000000; omega)
            have HV3 := Lib.hid hv3'
            clear hv3'
            have hFl : ∀ n, fpMp (⟨q, mp, m, .slice none 0 0, v1⟩ : Loc) L1 n → n < wr.heap.size := fun n hn => hMd.lt hn
            have hbs := hKd.size
            have hlV := hH.len
            rcases hFA with ⟨rfl, hnone⟩ | ⟨j, id, rfl, hj, hlk, hdel⟩
            · by_cases hfull : en ≤ (E.length : Int)
              · as_aux_lemma =>
                  have ef : decide ((E.length : Int) < en) = false := by simpa using hfull
                  go_wp2_with fail
                  refine wp_region_mix0 [.w, .w, .w, .w, .w, .l, .w, .w, .w, .w, .l, .t, .w] (by kernel_rfl) (by kernel_rfl) ?_
                  repeat (first
                    | (refine mix_w1 ?_; go_big_quiet_step (fail); refine wpQuiet_nil ?_)
                    | (refine mix_l1 rfl ?_; go_big_quiet_step (fail); refine wpQuiet_nil ?_))
                  refine mix_t fun Q' hQ' => ?_
                  go_wp2_with fail
                  refine hU.mono ?_
                  rintro e w5 ⟨v5, L5, he, hM5, hL5, hF5, hk5⟩
                  have er : e = .returned (.int .i64 93) := he.trans (congrArg (fun z => Ending.returned (.int .i64 z)) (by simp only [hnone]; unfold refC; simp; omega))
                  subst er
                  clear he hU
                  have hS5 : upS (⟨⟨2, 2, 3, en, false, 0⟩, E, []⟩ : MS) L1.length s.k 0 = ⟨⟨2, 2, 3, en, false, 0⟩, E, []⟩ := by
                    unfold upS
                    simp only [hnone]
                    rw [if_pos (by unfold refC; simp; omega)]
                  have hC5 : L5.map Rg.see = L1.map Rg.see := by
                    rw [hL5]
                    unfold upC
                    simp only [hnone]
                    rw [if_pos (by unfold refC; simp; omega)]
                  rw [hS5] at hM5
                  have hfp5 : ∀ k, fpMp (⟨q, mp, m, .slice none 0 0, v5⟩ : Loc) L5 k → w.heap.size ≤ k := fun k hk => by
                    rcases hF5 k hk with h | h
                    · exact hfp k h
                    · exact Nat.le_trans hKd.size h
                  have hK5 := hKd.drew.trans hk5 (fun k hk h => absurd (hfp k h) (by omega))
                  have hT5 := hTd.drew.upd hk5 hF5
                  have hlen5 : L5.length = L1.length := by simpa using congrArg List.length hC5
                  go_wp2_with fail
                  refine mix_w1 ?_
                  go_big_quiet_step (fail)
                  refine wpQuiet_nil ?_
                  refine mix_done ?_
                  go_wp2_with fail
                  exact ⟨⟨i + 1, v5, E, V, L5, by go_num, by omega, by omega, by omega, hEn, hM5, hH.same hC5, hT5, hfp5, hK5⟩, by simp [intOf]; omega⟩
              · as_aux_lemma =>
                  have ef : decide ((E.length : Int) < en) = true := by simpa using hfull
                  go_wp2_with fail
                  refine wp_region_mix0 [.w, .w, .w, .w, .w, .l, .w, .w, .w, .w, .l, .t, .w] (by kernel_rfl) (by kernel_rfl) ?_
                  repeat (first
                    | (refine mix_w1 ?_; go_big_quiet_step (fail); refine wpQuiet_nil ?_)
                    | (refine mix_l1 rfl ?_; go_big_quiet_step (fail); refine wpQuiet_nil ?_))
                  refine mix_t fun Q' hQ' => ?_
                  go_wp2_with fail
                  refine hU.mono ?_
                  rintro e w5 ⟨v5, L5, he, hM5, hL5, hF5, hk5⟩
                  have er : e = .returned (.int .i64 0) := he.trans (congrArg (fun z => Ending.returned (.int .i64 z)) (by simp only [hnone]; unfold refC; simp; omega))
                  subst er
                  clear he hU
                  have hS5 : upS (⟨⟨2, 2, 3, en, false, 0⟩, E, []⟩ : MS) L1.length s.k 0 = ⟨⟨2, 2, 3, en, false, 0⟩, E ++ [(s.k, (L1.length : Int) + 1)], []⟩ := by
                    unfold upS
                    simp only [hnone]
                    rw [if_neg (by unfold refC; simp; omega), if_neg (by simp)]
                  have hC5 : L5.map Rg.see = L1.map Rg.see ++ [(s.v, true, 0, false)] := by
                    rw [hL5]
                    unfold upC
                    simp only [hnone]
                    rw [if_neg (by unfold refC; simp; omega)]
                    simp [hidN]
                  rw [hS5] at hM5
                  have hlen5 : L5.length = L1.length + 1 := by simpa using congrArg List.length hC5
                  have hlk5 : lookS (E ++ [(s.k, (L1.length : Int) + 1)]) s.k = some ((L1.length : Int) + 1) := by
                    rw [lookS_app hnone]
                    simp [lookS]
                  have hfp5 : ∀ k, fpMp (⟨q, mp, m, .slice none 0 0, v5⟩ : Loc) L5 k → w.heap.size ≤ k := fun k hk => by
                    rcases hF5 k hk with h | h
                    · exact hfp k h
                    · exact Nat.le_trans hKd.size h
                  have hK5 := hKd.drew.trans hk5 (fun k hk h => absurd (hfp k h) (by omega))
                  have hT5 := hTd.drew.upd hk5 hF5
                  have hnf : ∀ k, k < w.heap.size → ¬ fpMp (⟨q, mp, m, .slice none 0 0, v1⟩ : Loc) L1 k := fun k hk h => absurd (hfp k h) (by omega)
                  have hby5 := hby.drew.kept hk5 (fun k hk => hnf k (hbyw.2 k hk))
                  have h52 : w5.cell? ⟨g, off + i * 5 + 2, none⟩ = some (.slice ka s.k.length kc) := by rw [hk5.cell (p := ⟨g, off + i * 5 + 2, none⟩) hgd (hnf g hg0)]; exact hd2
                  have hFl5 : ∀ n, fpMp (⟨q, mp, m, .slice none 0 0, v5⟩ : Loc) L5 n → n < w5.heap.size := fun n hn => hM5.lt hn
                  have hbs5 := hK5.size
                  go_wp2_with fail
                  refine mix_w1 ?_
                  go_big_quiet_step (fail)
                  refine wpQuiet_nil ?_
                  refine mix_done ?_
                  go_wp2_with fail
                  have hLK := lookup_ok _ _ _ _ s.k w5 hM5 hby5 hask
                  simp only [hlk5, Option.getD_some, Option.isSome_some] at hLK
                  refine hLK.mono ?_
                  clear hLK
                  rintro e w6 ⟨rfl, rfl⟩
                  rw [show sV s.k = .string ⟨s.k.toArray⟩ from rfl, show sV s.v = .string ⟨s.v.toArray⟩ from rfl]
                  go_wp2_with (first
                    | (at_builtin; refine wpList_pushG (w := w5.drew) rfl (.tmp 219) (.tmp 221) 53 rfl Try.underlying53 hS0 hS1 hS2 hS3 rfl (by omega) (.slice kA E.length kC) (E.map fun y => [sV y.1]) [sV s.k] rfl rfl hT5.drew.k rfl (by simp [sV, Value.oneCell']) (by simp; omega) (by omega) ?_; intro g6 cap6 w6 hS6 hk6 hg6; simp only [List.length_map] at hS6 ⊢; have hT6 := hT5.drew.setK hFl5 hbs5 hk6 hS6 (fun g hg => by (simp only [Value.ownBlock, Option.some.injEq] at hg ⊢; subst hg; exact hg6)); have hM6 := hM5.drew.kept hk6 (fun k hk e => (hT5.kf k e).1 hk); have hFl6 : ∀ n, fpMp (⟨q, mp, m, .slice none 0 0, v5⟩ : Loc) L5 n → n < w6.heap.size := fun n hn => hM6.lt hn; have hK6 := hK5.drew.trans hk6 (fun k hk e => absurd (hT5.kf k e).2 (by omega)); have hbs6 := hK6.size)
                    | (at_builtin; refine wpList_pushG (w := w6) rfl (.tmp 223) (.tmp 225) 53 rfl Try.underlying53 hS0 hS1 hS2 hS3 rfl (by omega) (.slice vA E.length vC) (V.map fun l => [sV l]) [sV s.v] rfl rfl hT6.v rfl (by simp [sV, Value.oneCell']) (by simp; omega) (by omega) ?_; intro g7 cap7 w7 hS7 hk7 hg7; simp only [List.length_map, hlV] at hS7 ⊢; have hT7 := hT6.setV hFl6 hbs6 hk7 hS7 (fun g hg => by (simp only [Value.ownBlock, Option.some.injEq] at hg ⊢; subst hg; exact hg7)); have hM7 := hM6.kept hk7 (fun k hk e => (hT6.vf k e).1 hk); have hFl7 : ∀ n, fpMp (⟨q, mp, m, .slice none 0 0, v5⟩ : Loc) L5 n → n < w7.heap.size := fun n hn => hM7.lt hn; have hK7 := hK6.trans hk7 (fun k hk e => absurd (hT6.vf k e).2 (by omega)); have hbs7 := hK7.size)
                    | (at_builtin; refine wpList_pushG (w := w7) rfl (.tmp 227) (.tmp 229) 54 rfl Try.underlying54 hI0 hI1 hI2 hI3 rfl (by omega) (.slice dA E.length dC) (E.map fun y => [Value.int .i64 y.2]) [Value.int .i64 ((L1.length : Int) + 1)] rfl rfl hT7.i rfl (by simp [Value.oneCell']) (by simp; omega) (by omega) ?_; intro g8 cap8 w8 hS8 hk8 hg8; simp only [List.length_map] at hS8 ⊢; have hT8 := hT7.setI hFl7 hbs7 hk8 hS8 (fun g hg => by (simp only [Value.ownBlock, Option.some.injEq] at hg ⊢; subst hg; exact hg8)); have hMB := hM7.kept hk8 (fun k hk e => (hT7.if_ k e).1 hk); have hKB := hK7.trans hk8 (fun k hk e => absurd (hT7.if_ k e).2 (by omega))))
                  have hHB := hH.push HK2.out hC5
                  have hTB : T3 w8 (fpMp (⟨q, mp, m, .slice none 0 0, v5⟩ : Loc) L5) w.heap.size (.slice (some ⟨g6, 0, none⟩) (E.length + 1) cap6) (.slice (some ⟨g7, 0, none⟩) (E.length + 1) cap7) (.slice (some ⟨g8, 0, none⟩) (E.length + 1) cap8) ((E ++ [(s.k, (L1.length : Int) + 1)]).map fun y => [sV y.1]) ((V ++ [s.v]).map fun l => [sV l]) ((E ++ [(s.k, (L1.length : Int) + 1)]).map fun y => [Value.int .i64 y.2]) := by
                    simpa using hT8
                  clear hT5 hT6 hT7 hT8 hM5 hM6 hM7 hK6 hK7 hk6 hk7 hk8 hS6 hS7 hS8 hg6 hg7 hg8
                  go_loopw [23] (fun nv wx => ∃ n : Nat, nv = .int .i64 n ∧ n ≤ (E.length + 1) ∧ Kept (fun _ => False) w8 wx) (fun nv _ => (E.length + 1) - (intOf nv).toNat)
                  case atStart => exact ⟨0, rfl, Nat.zero_le _, Kept.refl _ _⟩
                  case round =>
                    obtain ⟨n, rfl, hn, hKx⟩ := hrel
                    have hMx := hMB.quiet hKx
                    have hTx := hTB.quiet hKx
                    by_cases hnl : n < (E.length + 1)
                    case neg =>
                      go_wp2_with fail
                      exact ⟨⟨i + 1, v5, (E ++ [(s.k, (L1.length : Int) + 1)]), (V ++ [s.v]), L5, by go_num, by omega, by omega, by simp; omega, by simp; omega, hMx, hHB, hTx, hfp5, hKB.trans hKx (fun _ _ h => h)⟩, by simp [intOf]; omega⟩
                    case pos => as_aux_lemma =>
                        obtain ⟨y, hy⟩ : ∃ y, (E ++ [(s.k, (L1.length : Int) + 1)])[n]? = some y := ⟨_, List.getElem?_eq_getElem (by simp; omega)⟩
                        obtain ⟨l, hl⟩ : ∃ l, (V ++ [s.v])[n]? = some l := ⟨_, List.getElem?_eq_getElem (by have := hHB.len; simp at this ⊢; omega)⟩
                        obtain ⟨y1, y2⟩ := y
                        obtain ⟨j9, r9, hy2, hr9, hb9⟩ := hHB.val n _ l hy hl
                        simp only at hy2
                        subst hy2
                        have hk9 := (hHB.k2 _ (List.mem_of_getElem? hy)).1
                        simp only at hk9
                        have hask9 : asksC (⟨2, 2, 3, en, false, 0⟩ : Df) y1.length = 0 := by rw [hk9]; rfl
                        clear hk9
                        have hlk9 := (lookS_at (keys_nodup' hMx) hy).1
                        have hcy : wr.cell? ⟨g6, n, none⟩ = some (sV y1) := by
                          have := hTx.k.cell (i := n) (c := [sV y1]) (by rw [List.getElem?_map, hy]; rfl) (k := 0) (by omega)
                          simpa using this
                        have hcl : wr.cell? ⟨g7, n, none⟩ = some (sV l) := by
                          have := hTx.v.cell (i := n) (c := [sV l]) (by rw [List.getElem?_map, hl]; rfl) (k := 0) (by omega)
                          simpa using this
                        have hlv := hTx.v.lt g7 rfl
                        obtain ⟨c9, w9, hcv, hB9, hk9', hz9⟩ := run_bytes_sV (P := Try.prog) wr Try.underlying9 Try.underlying33 Try.underlying5 y1
                        have HCV := Lib.hid hcv
                        clear hcv
                        have hcv := HCV.out
                        go_wp2_with fail
                        refine (value_has _ _ _ _ y1 w9 (hMx.quiet hk9') hB9 hask9 hlk9 hr9).mono ?_
                        rintro e wA ⟨ov, rfl, hov, _, hkA⟩
                        rw [hb9] at hov
                        have hkA' := hk9'.trans hkA (fun _ _ h => h)
                        have hcvA : (convert 33 9 ov).run Try.prog wA.drew = .ok (sV l) wA.drew := hov.by_.drew.conv Try.underlying33 Try.underlying5 Try.underlying9
                        have hclA : wA.drew.cell? ⟨g7, n, none⟩ = some (sV l) := by
                          have : wA.cell? ⟨g7, n, none⟩ = some (sV l) := by rw [hkA'.cell (p := ⟨g7, n, none⟩) hlv (fun h => h)]; exact hcl
                          exact this
                        have hnq := fun W => run_neq_sV (P := Try.prog) 9 l l W
                        rw [show (l != l) = false by simp] at hnq
                        go_wp2_with fail
                        refine wp_region_mix0 [.w, .w, .w, .w, .l, .w, .w, .w, .l, .l, .w] (by kernel_rfl) (by kernel_rfl) ?_
                        repeat (refine mix_w1 ?_; go_big_quiet_step (fail); refine wpQuiet_nil ?_)
                        refine mix_convG rfl (by simp [Region.wanted, yielded]) 33 9 (.tmp 250) rfl ov (sV l) rfl (fun w' hw' => by rw [hw']; exact hcvA) ?_
                        simp only [Act.put, List.setIfInBounds_toArray, List.set_cons_succ, List.set_cons_zero]
                        repeat (refine mix_w1 ?_; go_big_quiet_step (fail); refine wpQuiet_nil ?_)
                        refine mix_loadG rfl (by simp [Region.wanted, yielded]) 9 (.tmp 254) rfl naStr ⟨g7, n, none⟩ (sV l) rfl (fun w' hw' => by rw [hw']; exact hclA) ?_
                        simp only [Act.put, List.setIfInBounds_toArray, List.set_cons_succ, List.set_cons_zero]
                        refine mix_binG rfl (by simp [Region.wanted, yielded]) .neq 9 9 (.tmp 251) (.tmp 255) rfl (sV l) (sV l) (.bool false) rfl rfl (fun w' => rfl) hnq ?_
                        simp only [Act.put, List.setIfInBounds_toArray, List.set_cons_succ, List.set_cons_zero]
                        repeat (refine mix_w1 ?_; go_big_quiet_step (fail); refine wpQuiet_nil ?_)
                        refine mix_done ?_
                        go_wp2_with fail
                        go_roundw
                        case rel => exact ⟨n + 1, by go_num, by omega, (hKx.trans hkA' (fun _ _ h => h)).drew⟩
                        case measure => simp [intOf]; omega
            · as_aux_lemma =>
                have hjl : j < E.length := (List.getElem?_eq_some_iff.1 hj).1
                go_wp2_with fail
                refine wp_region_mix0 [.w, .w, .w, .w, .w, .l, .w, .w, .w, .w, .l, .t, .w] (by kernel_rfl) (by kernel_rfl) ?_
                repeat (first
                  | (refine mix_w1 ?_; go_big_quiet_step (fail); refine wpQuiet_nil ?_)
                  | (refine mix_l1 rfl ?_; go_big_quiet_step (fail); refine wpQuiet_nil ?_))
                refine mix_t fun Q' hQ' => ?_
                go_wp2_with fail
                refine hU.mono ?_
                rintro e w5 ⟨v5, L5, he, hM5, hL5, hF5, hk5⟩
                have er : e = .returned (.int .i64 0) := he.trans (congrArg (fun z => Ending.returned (.int .i64 z)) (by simp only [hlk]; unfold refC; simp))
                subst er
                clear he hU
                have hS5 : upS (⟨⟨2, 2, 3, en, false, 0⟩, E, []⟩ : MS) L1.length s.k 0 = ⟨⟨2, 2, 3, en, false, 0⟩, E, []⟩ := by
                  unfold upS
                  simp only [hlk]
                  simp
                have hC5 : L5.map Rg.see = (L1.map Rg.see).modify (id - 1).toNat fun c => (s.v, c.2) := by
                  rw [hL5]
                  unfold upC
                  simp only [hlk]
                  rw [if_neg (by unfold refC; simp)]
                  simp [hidN]
                rw [hS5] at hM5
                have hlen5 : L5.length = L1.length := by simpa using congrArg List.length hC5
                have hfp5 : ∀ k, fpMp (⟨q, mp, m, .slice none 0 0, v5⟩ : Loc) L5 k → w.heap.size ≤ k := fun k hk => by
                  rcases hF5 k hk with h | h
                  · exact hfp k h
                  · exact Nat.le_trans hKd.size h
                have hK5 := hKd.drew.trans hk5 (fun k hk h => absurd (hfp k h) (by omega))
                have hT5 := hTd.drew.upd hk5 hF5
                have hnf : ∀ k, k < w.heap.size → ¬ fpMp (⟨q, mp, m, .slice none 0 0, v1⟩ : Loc) L1 k := fun k hk h => absurd (hfp k h) (by omega)
                have hby5 := hby.drew.kept hk5 (fun k hk => hnf k (hbyw.2 k hk))
                have h52 : w5.cell? ⟨g, off + i * 5 + 2, none⟩ = some (.slice ka s.k.length kc) := by rw [hk5.cell (p := ⟨g, off + i * 5 + 2, none⟩) hgd (hnf g hg0)]; exact hd2
                have hFl5 : ∀ n, fpMp (⟨q, mp, m, .slice none 0 0, v5⟩ : Loc) L5 n → n < w5.heap.size := fun n hn => hM5.lt hn
                have hbs5 := hK5.size
                go_wp2_with fail
                refine mix_w1 ?_
                go_big_quiet_step (fail)
                refine wpQuiet_nil ?_
                refine mix_done ?_
                go_wp2_with fail
                have hLK := lookup_ok _ _ _ _ s.k w5 hM5 hby5 hask
                simp only [hlk, Option.getD_some, Option.isSome_some] at hLK
                refine hLK.mono ?_
                clear hLK
                rintro e w6 ⟨rfl, rfl⟩
                have hT6 := hT5.drew
                obtain ⟨gk, kC', hkv, hkcap, hgk⟩ := hT6.k.some_ (by simp; omega)
                obtain ⟨rfl, -, rfl⟩ := Value.slice.inj hkv
                obtain ⟨gv, vC', hvv, hvcap, hgv⟩ := hT6.v.some_ (by simp; omega)
                obtain ⟨rfl, -, rfl⟩ := Value.slice.inj hvv
                obtain ⟨gd, dC', hdv, hdcap, hgd2⟩ := hT6.i.some_ (by simp; omega)
                obtain ⟨rfl, -, rfl⟩ := Value.slice.inj hdv
                clear hkv hvv hdv
                obtain ⟨lo, hlo⟩ : ∃ l, V[j]? = some l := ⟨_, List.getElem?_eq_getElem (by omega)⟩
                have hci : w5.drew.cell? ⟨gd, j, none⟩ = some (.int .i64 id) := by
                  have := hT6.i.cell (i := j) (c := [.int .i64 id]) (by simp [hj]) (k := 0) (by omega)
                  simpa using this
                have hcv : w5.drew.cell? ⟨gv, j, none⟩ = some (sV lo) := by
                  have := hT6.v.cell (i := j) (c := [sV lo]) (by simp [hlo]) (k := 0) (by omega)
                  simpa using this
                have hfv : w5.drew.frozen? ⟨gv, j, none⟩ = false := hT6.v.frozen j
                have hS7 := hT6.v.setCell (i := j) (c := [sV lo]) (by simp [hlo]) (k := 0) (by omega) (sV s.v)
                simp only [Nat.mul_one, Nat.add_zero, List.set_cons_zero] at hS7
                have hkS : Kept (fun k => (Value.slice (some ⟨gv, 0, none⟩) E.length vC).ownBlock = some k) w5.drew (w5.drew.setCell ⟨gv, j, none⟩ (sV s.v)) := (Kept.refl (fun k => (Value.slice (some ⟨gv, 0, none⟩) E.length vC).ownBlock = some k) w5.drew).setCell (p := ⟨gv, j, none⟩) (fun _ => rfl) _
                have hTB := hT6.setV hFl5 hbs5 hkS hS7 (fun g hg => .inl hg)
                have hMB := hM5.drew.kept hkS (fun k hk e => (hT6.vf k e).1 hk)
                have hKB := hK5.drew.trans hkS (fun k hk e => absurd (hT6.vf k e).2 (by omega))
                have hHB := hH.over hj hC5
                have hset : (V.map fun l => [sV l]).set j [sV s.v] = (V.set j s.v).map fun l => [sV l] := by rw [List.map_set]
                rw [hset] at hTB
                clear hT5 hT6 hM5 hK5 hkS hS7
                rw [show sV s.v = .string ⟨s.v.toArray⟩ from rfl]
                go_wp2_with fail
                go_loopw [23] (fun nv wx => ∃ n : Nat, nv = .int .i64 n ∧ n ≤ E.length ∧ Kept (fun _ => False) (w5.drew.setCell ⟨gv, j, none⟩ (sV s.v)) wx) (fun nv _ => E.length - (intOf nv).toNat)
                case atStart => exact ⟨0, rfl, Nat.zero_le _, Kept.refl _ _⟩
                case round =>
                  obtain ⟨n, rfl, hn, hKx⟩ := hrel
                  have hMx := hMB.quiet hKx
                  have hTx := hTB.quiet hKx
                  by_cases hnl : n < E.length
                  case neg =>
                    go_wp2_with fail
                    exact ⟨⟨i + 1, v5, E, (V.set j s.v), L5, by go_num, by omega, by omega, by (try simp); omega, by (try simp); omega, hMx, hHB, hTx, hfp5, hKB.trans hKx (fun _ _ h => h)⟩, by simp [intOf]; omega⟩
                  case pos => as_aux_lemma =>
                      obtain ⟨y, hy⟩ : ∃ y, E[n]? = some y := ⟨_, List.getElem?_eq_getElem (by (try simp); omega)⟩
                      obtain ⟨l, hl⟩ : ∃ l, (V.set j s.v)[n]? = some l := ⟨_, List.getElem?_eq_getElem (by have := hHB.len; (try simp at this ⊢); omega)⟩
                      obtain ⟨y1, y2⟩ := y
                      obtain ⟨j9, r9, hy2, hr9, hb9⟩ := hHB.val n _ l hy hl
                      simp only at hy2
                      subst hy2
                      have hk9 := (hHB.k2 _ (List.mem_of_getElem? hy)).1
                      simp only at hk9
                      have hask9 : asksC (⟨2, 2, 3, en, false, 0⟩ : Df) y1.length = 0 := by rw [hk9]; rfl
                      clear hk9
                      have hlk9 := (lookS_at (keys_nodup' hMx) hy).1
                      have hcy : wr.cell? ⟨gk, n, none⟩ = some (sV y1) := by
                        have := hTx.k.cell (i := n) (c := [sV y1]) (by rw [List.getElem?_map, hy]; rfl) (k := 0) (by omega)
                        simpa using this
                      have hcl : wr.cell? ⟨gv, n, none⟩ = some (sV l) := by
                        have := hTx.v.cell (i := n) (c := [sV l]) (by rw [List.getElem?_map, hl]; rfl) (k := 0) (by omega)
                        simpa using this
                      have hlv := hTx.v.lt gv rfl
                      obtain ⟨c9, w9, hcv, hB9, hk9', hz9⟩ := run_bytes_sV (P := Try.prog) wr Try.underlying9 Try.underlying33 Try.underlying5 y1
                      have HCV := Lib.hid hcv
                      clear hcv
                      have hcv := HCV.out
                      go_wp2_with fail
                      refine (value_has _ _ _ _ y1 w9 (hMx.quiet hk9') hB9 hask9 hlk9 hr9).mono ?_
                      rintro e wA ⟨ov, rfl, hov, _, hkA⟩
                      rw [hb9] at hov
                      have hkA' := hk9'.trans hkA (fun _ _ h => h)
                      have hcvA : (convert 33 9 ov).run Try.prog wA.drew = .ok (sV l) wA.drew := hov.by_.drew.conv Try.underlying33 Try.underlying5 Try.underlying9
                      have hclA : wA.drew.cell? ⟨gv, n, none⟩ = some (sV l) := by
                        have : wA.cell? ⟨gv, n, none⟩ = some (sV l) := by rw [hkA'.cell (p := ⟨gv, n, none⟩) hlv (fun h => h)]; exact hcl
                        exact this
                      have hnq := fun W => run_neq_sV (P := Try.prog) 9 l l W
                      rw [show (l != l) = false by simp] at hnq
                      go_wp2_with fail
                      refine wp_region_mix0 [.w, .w, .w, .w, .l, .w, .w, .w, .l, .l, .w] (by kernel_rfl) (by kernel_rfl) ?_
                      repeat (refine mix_w1 ?_; go_big_quiet_step (fail); refine wpQuiet_nil ?_)
                      refine mix_convG rfl (by simp [Region.wanted, yielded]) 33 9 (.tmp 250) rfl ov (sV l) rfl (fun w' hw' => by rw [hw']; exact hcvA) ?_
                      simp only [Act.put, List.setIfInBounds_toArray, List.set_cons_succ, List.set_cons_zero]
                      repeat (refine mix_w1 ?_; go_big_quiet_step (fail); refine wpQuiet_nil ?_)
                      refine mix_loadG rfl (by simp [Region.wanted, yielded]) 9 (.tmp 254) rfl naStr ⟨gv, n, none⟩ (sV l) rfl (fun w' hw' => by rw [hw']; exact hclA) ?_
                      simp only [Act.put, List.setIfInBounds_toArray, List.set_cons_succ, List.set_cons_zero]
                      refine mix_binG rfl (by simp [Region.wanted, yielded]) .neq 9 9 (.tmp 251) (.tmp 255) rfl (sV l) (sV l) (.bool false) rfl rfl (fun w' => rfl) hnq ?_
                      simp only [Act.put, List.setIfInBounds_toArray, List.set_cons_succ, List.set_cons_zero]
                      repeat (refine mix_w1 ?_; go_big_quiet_step (fail); refine wpQuiet_nil ?_)
                      refine mix_done ?_
                      go_wp2_with fail
                      go_roundw
                      case rel => exact ⟨n + 1, by go_num, by omega, (hKx.trans hkA' (fun _ _ h => h)).drew⟩
                      case measure => simp [intOf]; omega

end Go.Proofs.Ytahabogjfcdjkaa
