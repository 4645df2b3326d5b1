import Derived.Test.YtahabogjfcdjkaaKy
import Derived.Test.YtahabogjfcdjkaaUp
import Derived.Test.YtahabogjfcdjkaaIn
import Derived.Test.YtahabogjfcdjkaaLa
import Derived.Test.YtahabogjfcdjkaaMg
set_option linter.unusedSimpArgs false
set_option linter.unusedVariables false
namespace Go.Proofs.Ytahabogjfcdjkaa
open Go.RowKit

/-- a slice of slices of bytes that came in -/
def InBB (w : World) (a : Option Addr) (ll : List (List UInt8)) : Prop := ∀ (i : Nat) (l : List UInt8), ll[i]? = some l → ∃ g off ea ec, a = some ⟨g, off, none⟩ ∧ g < w.heap.size ∧ w.cell? ⟨g, off + i, none⟩ = some (.slice ea l.length ec) ∧ l.length ≤ ec ∧ InB w ea l
theorem InBB.kept {w w' : World} {a : Option Addr} {ll : List (List UInt8)} (h : InBB w a ll) (hk : Kept (fun _ => False) w w') : InBB w' a ll := fun i l hl => by
  obtain ⟨g, off, ea, ec, ha, hg, hc, hle, hb⟩ := h i l hl
  exact ⟨g, off, ea, ec, ha, Nat.lt_of_lt_of_le hg hk.size, by rw [hk.cell (p := ⟨g, off + i, none⟩) hg (fun h => h)]; exact hc, hle, hb.kept hk⟩
theorem InB.by_ {w : World} {a : Option Addr} {l : List UInt8} (h : InB w a l) (hp : 0 < l.length) {c : Nat} (hc : l.length ≤ c) : By w (.slice a l.length c) l ∧ ∀ g, (Value.slice a l.length c).ownBlock = some g → g < w.heap.size := by
  obtain ⟨g, off, rfl, hg, _⟩ := h 0 l[0] (List.getElem?_eq_getElem hp)
  refine ⟨.inr ⟨g, off, c, rfl, hg, hc, fun j u hu => ?_⟩, fun k hk => ?_⟩
  · simp only [bcells, List.getElem?_map] at hu
    cases hl : l[j]? with
    | none => rw [hl] at hu; cases hu
    | some b =>
      rw [hl] at hu
      obtain ⟨g', off', ha, _, hc'⟩ := h j b hl
      simp only [Option.some.injEq, Addr.mk.injEq, and_true] at ha
      obtain ⟨rfl, rfl⟩ := ha
      rw [hc']
      exact hu
  · simp only [Value.ownBlock, Option.some.injEq] at hk
    omega

theorem cb_ne {a b : List UInt8} (h : 0 ≤ Lib.compareBytes b a) (hne : a ≠ b) : Lib.compareBytes a b < 0 := by
  have := cb_neg a b
  rcases Int.lt_trichotomy (Lib.compareBytes a b) 0 with h1 | h1 | h1
  · exact h1
  · exact absurd (cb_eq h1) hne
  · omega

theorem lookS_of {α : Type} {k : List UInt8} {u : α} : ∀ {l : List (List UInt8 × α)}, (l.map (·.1)).Nodup → (k, u) ∈ l → lookS l k = some u
  | [], _, h => nomatch h
  | (a, b) :: l, hn, h => by
    have hn' := List.nodup_cons.1 hn
    simp only [lookS]
    rcases List.mem_cons.1 h with h | h
    · cases h
      rw [if_pos rfl]
    · rw [if_neg (fun e => hn'.1 (by rw [e]; exact List.mem_map.2 ⟨(k, u), h, rfl⟩))]
      exact lookS_of hn'.2 h
theorem nodup_inj {l : List (List UInt8 × Int)} (hn : (l.map (·.2)).Nodup) {y z : List UInt8 × Int} (hy : y ∈ l) (hz : z ∈ l) (e : y.2 = z.2) : y = z := by
  induction l with
  | nil => cases hy
  | cons x l ih =>
    have hn' := List.nodup_cons.1 hn
    rcases List.mem_cons.1 hy with rfl | hy'
    · rcases List.mem_cons.1 hz with rfl | hz'
      · rfl
      · exact absurd (List.mem_map.2 ⟨z, hz', e.symm⟩) hn'.1
    · rcases List.mem_cons.1 hz with rfl | hz'
      · exact absurd (List.mem_map.2 ⟨y, hy', e⟩) hn'.1
      · exact ih hn'.2 hy' hz'
theorem naBy : ∀ w, (isAgg 33).run Try.prog w = .ok false w := fun w => by kernel_rfl

set_option maxHeartbeats 4000000 in
set_option maxRecDepth 100000 in
theorem walk_keys (ka : Option Addr) (kc : Nat) (ll : List (List UInt8)) (w : World) (hk : InBB w ka ll) :
    Calls Try.prog 5 #[.slice ka ll.length kc] w fun e w' => e = .returned (.bool true) ∧ Kept (fun _ => False) w w' := by
  by_cases h3 : 60 < ll.length
  · go_enter Try.func5, Try.ntmps5
    go_wp2_with fail
    refine (known_any w).mono ?_
    rintro e w1 ⟨rfl, hk1⟩
    go_wp2_with fail
    go_ret
    exact ⟨rfl, hk1⟩
  go_enter Try.func5, Try.ntmps5
  go_wp2_with fail
  refine (known_any w).mono ?_
  rintro e w1 ⟨rfl, hk1⟩
  go_wp2_with fail
  refine (memNew_any w1).mono ?_
  rintro e w2 ⟨rfl, hm2, hbl2, hk2, hz2⟩
  go_wp2_with fail
  refine (new_hash ⟨2, 3, 1, 64, false, 0⟩ w1.heap.size (.slice none 0 0) [] w2 hm2 rfl (defHash (by decide) (by decide) (by omega) (by omega))).mono ?_
  rintro e w4 ⟨q, m, rfl, hM4, hq, hm, hk3⟩
  have hK4 : Kept (fun _ => False) w w4 := (hk1.trans hk2 (fun _ _ h => h)).trans hk3 (fun _ _ h => h)
  have hfp : ∀ k, fpMp (⟨q, w1.heap.size, m, .slice none 0 0, .slice none 0 0⟩ : Loc) [] k → w.heap.size ≤ k := fun k hk => by
    have := hk1.size
    have := hk2.size
    rcases hk with h | h | h | h
    · simp only at h; omega
    · simp only at h; omega
    · simp [Value.ownBlock] at h
    · rw [hbl2] at h
      have := List.mem_singleton.1 h
      omega
  go_wp2_with fail
  generalize w1.heap.size = mp at *
  clear hk1 hm2 hbl2 hk2 hz2 hk3 hq hm
  go_loopw [6, 5] (fun iv nv wr => ∃ (i : Nat) (v1 : Value) (E : List (List UInt8 × Int)) (L1 : List Rg), iv = .int .i64 i ∧ nv = .int .i64 E.length ∧ i ≤ ll.length ∧ L1.length ≤ i ∧ E.length ≤ L1.length ∧
    Mp wr ⟨q, mp, m, .slice none 0 0, v1⟩ ⟨⟨2, 3, 1, 64, false, 0⟩, E, []⟩ L1 ∧ (∀ y ∈ E, y.1.length = 3 ∧ y.2 ≤ L1.length) ∧ (E.map (·.2)).Nodup ∧ (∀ k, fpMp (⟨q, mp, m, .slice none 0 0, v1⟩ : Loc) L1 k → w.heap.size ≤ k) ∧ Kept (fun _ => False) w wr) (fun iv _ _ => ll.length - (intOf iv).toNat)
  case atStart => exact ⟨0, .slice none 0 0, [], [], rfl, rfl, Nat.zero_le _, Nat.zero_le _, Nat.le_refl _, hM4, by simp, List.nodup_nil, hfp, hK4⟩
  case round =>
    clear hM4 hfp hK4
    obtain ⟨i, v1, E, L1, rfl, rfl, hi, hL, hEL, hM, hE3, hEn, hfp, hK⟩ := hrel
    by_cases hlt : i < ll.length
    case neg =>
      obtain rfl : i = ll.length := by omega
      go_wp2_with fail
      refine (keys_any _ _ _ wr hM (by show (2 : Int) ≠ 3; decide)).mono ?_
      rintro e w5 ⟨ov, R, rfl, hS, hBy, hperm, hsorted, _, hk5⟩
      have hK5 := hK.trans hk5 (fun _ _ h => h)
      have hM5 := hM.quiet hk5
      obtain ⟨A, c, hov⟩ := hS.any
      have hRl : R.length = E.length := by
        have := hperm.length_eq
        simpa using this
      rw [List.length_map, hRl] at hov
      subst hov
      have hkn := hM.keys_nodup
      go_wp2_with fail
      go_loopw [11] (fun iv wx => ∃ i : Nat, iv = .int .i64 i ∧ i ≤ E.length ∧ Kept (fun _ => False) w5 wx) (fun iv _ => E.length - (intOf iv).toNat)
      case atStart => exact ⟨0, rfl, Nat.zero_le _, Kept.refl _ _⟩
      case round =>
        obtain ⟨i, rfl, hi, hKx⟩ := hrel
        by_cases hlt2 : i < E.length
        case neg =>
          obtain rfl : i = E.length := by omega
          go_wp2_with fail
          go_ret
          exact ⟨rfl, hK5.trans hKx (fun _ _ h => h)⟩
        case pos =>
          have hSx := Sl.kept hKx hS (fun _ _ h => h)
          have hByx : ∀ y ∈ R, By wr y.1 y.2 := fun y hy => (hBy y hy).kept hKx (fun _ _ h => h)
          have hMx := hM5.quiet hKx
          obtain ⟨y, hy⟩ : ∃ y, R[i]? = some y := ⟨_, List.getElem?_eq_getElem (by omega)⟩
          obtain ⟨gr, rfl⟩ : ∃ gr, A = some ⟨gr, 0, none⟩ := by
            rcases hSx.shape with ⟨h, h'⟩ | ⟨gr, cap, h, _⟩
            · have := congrArg List.length h'
              simp at this
              subst this
              simp at hRl
              omega
            · exact ⟨gr, (Value.slice.inj h).1⟩
          have hcy : wr.cell? ⟨gr, i, none⟩ = some y.1 := by
            have := hSx.cell (i := i) (c := kcell y) (by simp [hy]) (k := 0) (by omega)
            simpa [kcell] using this
          have hby := hByx y (List.mem_of_getElem? hy)
          have hgl : gr < wr.heap.size := hSx.lt gr rfl
          obtain ⟨yA, yc, hyv⟩ := hby.any
          have hcv : ∀ (y : Value × List UInt8) (W : World), By W y.1 y.2 → (convert 33 9 y.1).run Try.prog W = .ok (sV y.2) W := fun _ W h => h.conv Try.underlying33 Try.underlying5 Try.underlying9
          have hcv1 := hcv y wr.drew hby
          rcases Nat.eq_zero_or_pos i with h0 | h0
          · subst h0
            simp only [Int.natCast_zero] at *
            go_wp2_with fail
            refine wp_region_mix0 [.w, .w, .w, .w, .w, .w, .w, .l, .l, .w, .w, .w, .l, .l, .w, .w] (by kernel_rfl) (by kernel_rfl) ?_
            repeat (first
              | (refine mix_w1 ?_; go_big_quiet_step (fail); refine wpQuiet_nil ?_)
              | (refine mix_l1 rfl ?_; go_big_quiet_step (fail); refine wpQuiet_nil ?_))
            refine mix_done ?_
            go_wp2_with fail
            have hyE := (hperm.mem_iff).1 (List.mem_map.2 ⟨y, List.mem_of_getElem? hy, rfl⟩)
            obtain ⟨u, hu, huk⟩ := List.mem_map.1 hyE
            have huk : u.1 = y.2 := huk
            have hlk : lookS E y.2 = some u.2 := lookS_of hkn (by rw [← huk]; exact hu)
            have hask : asksC (⟨2, 3, 1, 64, false, 0⟩ : Df) y.2.length = 0 := by rw [← huk, (hE3 u hu).1]; rfl
            have hL := lookup_ok _ _ _ y.1 y.2 wr.drew hMx.drew hby hask
            rw [hyv] at hL
            simp only [hlk, Option.getD_some, Option.isSome_some] at hL
            refine hL.mono ?_
            clear hL
            rintro e w8 ⟨rfl, rfl⟩
            go_wp2_with fail
            refine (key_any _ _ _ u.2 y.2 wr.drew.drew hMx.drew.drew (by show (y.2, u.2) ∈ E; rw [← huk]; exact hu) (fun z hz e => (by rw [← huk, nodup_inj hEn hz hu e]))).mono ?_
            rintro e w9 ⟨kv, rfl, hBk, hk9⟩
            have hbk := hcv (kv, y.2) w9.drew hBk
            have hk9' : Kept (fun _ => False) wr w9 := ((Kept.refl _ wr).drew.drew).trans hk9 (fun _ _ h => h)
            have hby9 := hby.kept hk9' (fun _ _ h => h)
            have hcv9 := hcv y w9.drew hby9
            have hcy9 : w9.cell? ⟨gr, 0, none⟩ = some y.1 := by rw [hk9'.cell (p := ⟨gr, 0, none⟩) hgl (fun h => h)]; exact hcy
            go_wp2_with fail
            have hnq := fun W => run_neq_sV (P := Try.prog) 9 y.2 y.2 W
            rw [show (y.2 != y.2) = false by simp] at hnq
            refine wp_region_mix0 [.w, .w, .w, .w, .w, .w, .w, .w, .w, .w, .w, .w, .l, .w, .w, .w, .l, .l, .l, .w] (by kernel_rfl) (by kernel_rfl) ?_
            repeat (refine mix_w1 ?_; go_big_quiet_step (fail); refine wpQuiet_nil ?_)
            refine mix_convG rfl (by simp [Region.wanted, yielded]) 33 9 (.tmp 129) rfl kv (sV y.2) rfl (fun w' hw' => by rw [hw']; exact hbk) ?_
            simp only [Act.put, List.setIfInBounds_toArray, List.set_cons_succ, List.set_cons_zero]
            repeat (refine mix_w1 ?_; go_big_quiet_step (fail); refine wpQuiet_nil ?_)
            refine mix_loadG rfl (by simp [Region.wanted, yielded]) 33 (.tmp 133) rfl naBy ⟨gr, 0, none⟩ y.1 rfl (fun w' hw' => by rw [hw']; exact hcy9) ?_
            simp only [Act.put, List.setIfInBounds_toArray, List.set_cons_succ, List.set_cons_zero]
            refine mix_convG rfl (by simp [Region.wanted, yielded]) 33 9 (.tmp 134) rfl y.1 (sV y.2) rfl (fun w' hw' => by rw [hw']; exact hcv9) ?_
            simp only [Act.put, List.setIfInBounds_toArray, List.set_cons_succ, List.set_cons_zero]
            refine mix_binG rfl (by simp [Region.wanted, yielded]) .neq 9 9 (.tmp 130) (.tmp 135) rfl (sV y.2) (sV y.2) (.bool false) rfl rfl (fun w' => rfl) hnq ?_
            simp only [Act.put, List.setIfInBounds_toArray, List.set_cons_succ, List.set_cons_zero]
            repeat (refine mix_w1 ?_; go_big_quiet_step (fail); refine wpQuiet_nil ?_)
            refine mix_done ?_
            go_wp2_with fail
            go_roundw
            case rel => exact ⟨0 + 1, by go_num, by omega, (hKx.trans hk9' (fun _ _ h => h)).drew⟩
            case measure => simp [intOf]; omega
          · obtain ⟨z, hz⟩ : ∃ z, R[i - 1]? = some z := ⟨_, List.getElem?_eq_getElem (by omega)⟩
            obtain ⟨i', rfl⟩ : ∃ i', i = i' + 1 := ⟨i - 1, by omega⟩
            have hcz : wr.cell? ⟨gr, i', none⟩ = some z.1 := by
              have := hSx.cell (i := i') (c := kcell z) (by simp at hz; simp [hz]) (k := 0) (by omega)
              simpa [kcell] using this
            have hbz := hByx z (List.mem_of_getElem? hz)
            have hcvz := hcv z wr.drew hbz
            have hzy : 0 ≤ Lib.compareBytes y.2 z.2 ∧ z.2 ≠ y.2 := by
              have h1 := List.pairwise_iff_getElem.1 hsorted i' (i' + 1) (by simp; omega) (by simp; omega) (by omega)
              have h2 := List.pairwise_iff_getElem.1 ((hperm.nodup_iff).2 hkn) i' (i' + 1) (by simp; omega) (by simp; omega) (by omega)
              have e1 := (List.getElem?_eq_some_iff.1 hy).2
              have e2 := (List.getElem?_eq_some_iff.1 hz).2
              simp only [Nat.add_sub_cancel] at e2
              simp only [List.getElem_map, e1, e2] at h1 h2
              exact ⟨h1, h2⟩
            have hlt3 := cb_ne hzy.1 hzy.2
            go_wp2_with fail
            have hgq := fun W => run_geq_sV (P := Try.prog) 9 z.2 y.2 W
            rw [show (!(decide (Lib.compareBytes z.2 y.2 < 0))) = false by simp [hlt3]] at hgq
            refine wp_region_mix0 [.w, .w, .w, .w, .w, .w, .w, .l, .l, .w, .w, .w, .l, .l, .l, .w] (by kernel_rfl) (by kernel_rfl) ?_
            repeat (refine mix_w1 ?_; go_big_quiet_step (fail); refine wpQuiet_nil ?_)
            refine mix_loadG rfl (by simp [Region.wanted, yielded]) 33 (.tmp 92) rfl naBy ⟨gr, i', none⟩ z.1 rfl (fun w' hw' => by rw [hw']; exact hcz) ?_
            simp only [Act.put, List.setIfInBounds_toArray, List.set_cons_succ, List.set_cons_zero]
            refine mix_convG rfl (by simp [Region.wanted, yielded]) 33 9 (.tmp 93) rfl z.1 (sV z.2) rfl (fun w' hw' => by rw [hw']; exact hcvz) ?_
            simp only [Act.put, List.setIfInBounds_toArray, List.set_cons_succ, List.set_cons_zero]
            repeat (refine mix_w1 ?_; go_big_quiet_step (fail); refine wpQuiet_nil ?_)
            refine mix_loadG rfl (by simp [Region.wanted, yielded]) 33 (.tmp 97) rfl naBy ⟨gr, i' + 1, none⟩ y.1 rfl (fun w' hw' => by rw [hw']; exact hcy) ?_
            simp only [Act.put, List.setIfInBounds_toArray, List.set_cons_succ, List.set_cons_zero]
            refine mix_convG rfl (by simp [Region.wanted, yielded]) 33 9 (.tmp 98) rfl y.1 (sV y.2) rfl (fun w' hw' => by rw [hw']; exact hcv1) ?_
            simp only [Act.put, List.setIfInBounds_toArray, List.set_cons_succ, List.set_cons_zero]
            refine mix_binG rfl (by simp [Region.wanted, yielded]) .geq 9 9 (.tmp 94) (.tmp 99) rfl (sV z.2) (sV y.2) (.bool false) rfl rfl (fun w' => rfl) hgq ?_
            simp only [Act.put, List.setIfInBounds_toArray, List.set_cons_succ, List.set_cons_zero]
            repeat (refine mix_w1 ?_; go_big_quiet_step (fail); refine wpQuiet_nil ?_)
            refine mix_done ?_
            go_wp2_with fail
            have hyE := (hperm.mem_iff).1 (List.mem_map.2 ⟨y, List.mem_of_getElem? hy, rfl⟩)
            obtain ⟨u, hu, huk⟩ := List.mem_map.1 hyE
            have huk : u.1 = y.2 := huk
            have hlk : lookS E y.2 = some u.2 := lookS_of hkn (by rw [← huk]; exact hu)
            have hask : asksC (⟨2, 3, 1, 64, false, 0⟩ : Df) y.2.length = 0 := by rw [← huk, (hE3 u hu).1]; rfl
            have hL := lookup_ok _ _ _ y.1 y.2 wr.drew hMx.drew hby hask
            rw [hyv] at hL
            simp only [hlk, Option.getD_some, Option.isSome_some] at hL
            refine hL.mono ?_
            clear hL
            rintro e w8 ⟨rfl, rfl⟩
            go_wp2_with fail
            refine (key_any _ _ _ u.2 y.2 wr.drew.drew hMx.drew.drew (by show (y.2, u.2) ∈ E; rw [← huk]; exact hu) (fun z hz e => (by rw [← huk, nodup_inj hEn hz hu e]))).mono ?_
            rintro e w9 ⟨kv, rfl, hBk, hk9⟩
            have hbk := hcv (kv, y.2) w9.drew hBk
            have hk9' : Kept (fun _ => False) wr w9 := ((Kept.refl _ wr).drew.drew).trans hk9 (fun _ _ h => h)
            have hby9 := hby.kept hk9' (fun _ _ h => h)
            have hcv9 := hcv y w9.drew hby9
            have hcy9 : w9.cell? ⟨gr, i' + 1, none⟩ = some y.1 := by rw [hk9'.cell (p := ⟨gr, i' + 1, none⟩) hgl (fun h => h)]; exact hcy
            go_wp2_with fail
            have hnq := fun W => run_neq_sV (P := Try.prog) 9 y.2 y.2 W
            rw [show (y.2 != y.2) = false by simp] at hnq
            refine wp_region_mix0 [.w, .w, .w, .w, .w, .w, .w, .w, .w, .w, .w, .w, .l, .w, .w, .w, .l, .l, .l, .w] (by kernel_rfl) (by kernel_rfl) ?_
            repeat (refine mix_w1 ?_; go_big_quiet_step (fail); refine wpQuiet_nil ?_)
            refine mix_convG rfl (by simp [Region.wanted, yielded]) 33 9 (.tmp 129) rfl kv (sV y.2) rfl (fun w' hw' => by rw [hw']; exact hbk) ?_
            simp only [Act.put, List.setIfInBounds_toArray, List.set_cons_succ, List.set_cons_zero]
            repeat (refine mix_w1 ?_; go_big_quiet_step (fail); refine wpQuiet_nil ?_)
            refine mix_loadG rfl (by simp [Region.wanted, yielded]) 33 (.tmp 133) rfl naBy ⟨gr, i' + 1, none⟩ y.1 rfl (fun w' hw' => by rw [hw']; exact hcy9) ?_
            simp only [Act.put, List.setIfInBounds_toArray, List.set_cons_succ, List.set_cons_zero]
            refine mix_convG rfl (by simp [Region.wanted, yielded]) 33 9 (.tmp 134) rfl y.1 (sV y.2) rfl (fun w' hw' => by rw [hw']; exact hcv9) ?_
            simp only [Act.put, List.setIfInBounds_toArray, List.set_cons_succ, List.set_cons_zero]
            refine mix_binG rfl (by simp [Region.wanted, yielded]) .neq 9 9 (.tmp 130) (.tmp 135) rfl (sV y.2) (sV y.2) (.bool false) rfl rfl (fun w' => rfl) hnq ?_
            simp only [Act.put, List.setIfInBounds_toArray, List.set_cons_succ, List.set_cons_zero]
            repeat (refine mix_w1 ?_; go_big_quiet_step (fail); refine wpQuiet_nil ?_)
            refine mix_done ?_
            go_wp2_with fail
            go_roundw
            case rel => exact ⟨i' + 1 + 1, by go_num, by omega, (hKx.trans hk9' (fun _ _ h => h)).drew⟩
            case measure => simp [intOf]; omega
    case pos =>
      obtain ⟨l, hl⟩ : ∃ l, ll[i]? = some l := ⟨_, List.getElem?_eq_getElem hlt⟩
      obtain ⟨g, off, ea, ec, rfl, hg, hc0, hle, hB⟩ := hk i l hl
      have hc : wr.cell? ⟨g, off + i, none⟩ = some (.slice ea l.length ec) := by rw [hK.cell (p := ⟨g, off + i, none⟩) hg (fun h => h)]; exact hc0
      by_cases hl3 : l.length = 3
      · have hby0 := (hB.by_ (by omega) hle).2
        have hby := (hB.kept hK).by_ (by omega) hle
        rw [hl3] at hc hby hby0
        have hask : asksC (⟨2, 3, 1, 64, false, 0⟩ : Df) l.length = 0 := by rw [hl3]; rfl
        have hcD := hc
        go_wp2_with fail
        refine (lookup_ok _ _ _ _ l wr hM hby.1 hask).mono ?_
        rintro e w5 ⟨rfl, rfl⟩
        have hc5 : wr.drew.cell? ⟨g, off + i, none⟩ = some (.slice ea 3 ec) := hc
        have hkB : Kept (fun _ => False) wr (wr.drew.alloc (.cells #[.int .u8 1] 5)) := (Kept.refl _ wr).drew.alloc _
        have hkx : ∀ k, (Value.slice ea 3 ec).ownBlock = some k → k ∉ blM mp v1 L1 := fun k hk h => by
          have h1 := hfp k (.inr (.inr (.inr h)))
          have h2 := hby0 k hk
          omega
        have hU := update_all (⟨q, mp, m, .slice none 0 0, v1⟩ : Loc) (⟨⟨2, 3, 1, 64, false, 0⟩, E, []⟩ : MS) L1 _ _ l [1] 0 _ (hM.quiet hkB) (hby.1.kept hkB (fun _ _ h => h)) hkx (By.ofNew wr.drew [1] 1 (Nat.le_refl 1)) hask rfl (Nat.zero_le _) Nat.one_pos (by simp) (by omega) (by show E.length < 1000000; omega)
        have hKB := hK.trans hkB (fun _ _ h => h)
        cases hlk : lookS E l with
        | some id =>
          simp only [hlk, Option.isSome_some, Option.getD_some]
          go_wp2_with fail
          refine hU.mono ?_
          rintro e w6 ⟨v5, L5, he, hM5, hL5, hF5, hk5⟩
          have er : e = .returned (.int .i64 0) := he.trans (congrArg (fun z => Ending.returned (.int .i64 z)) (by simp only [hlk]; unfold refC; simp))
          subst er
          have hS5 : upS (⟨⟨2, 3, 1, 64, false, 0⟩, E, []⟩ : MS) L1.length l 0 = ⟨⟨2, 3, 1, 64, false, 0⟩, E, []⟩ := by
            unfold upS
            simp only [hlk]
            simp
          rw [hS5] at hM5
          have hlen5 : L5.length = L1.length := by
            have := congrArg List.length hL5
            unfold upC at this
            simp only [hlk] at this
            split at this <;> simpa using this
          have hfp5 : ∀ k, fpMp (⟨q, mp, m, .slice none 0 0, v5⟩ : Loc) L5 k → w.heap.size ≤ k := fun k hk => by
            rcases hF5 k hk with h | h
            · exact hfp k h
            · exact Nat.le_trans hKB.size h
          go_wp2_with fail
          exact ⟨⟨i + 1, v5, E, L5, by go_num, rfl, by omega, by omega, by omega, hM5, fun y hy => by rw [hlen5]; exact hE3 y hy, hEn, hfp5, hKB.trans hk5 (fun k hk h => absurd (hfp k h) (by omega))⟩, by simp [intOf]; omega⟩
        | none =>
          simp only [hlk, Option.isSome_none, Option.getD_none]
          go_wp2_with fail
          refine hU.mono ?_
          rintro e w6 ⟨v5, L5, he, hM5, hL5, hF5, hk5⟩
          have er : e = .returned (.int .i64 0) := he.trans (congrArg (fun z => Ending.returned (.int .i64 z)) (by simp only [hlk]; unfold refC; simp; omega))
          subst er
          have hS5 : upS (⟨⟨2, 3, 1, 64, false, 0⟩, E, []⟩ : MS) L1.length l 0 = ⟨⟨2, 3, 1, 64, false, 0⟩, E ++ [(l, (L1.length : Int) + 1)], []⟩ := by
            unfold upS
            simp only [hlk]
            rw [if_neg (by unfold refC; simp; omega), if_neg (by simp)]
          rw [hS5] at hM5
          have hlen5 : L5.length = L1.length + 1 := by
            have := congrArg List.length hL5
            unfold upC at this
            simp only [hlk] at this
            rw [if_neg (by unfold refC; simp; omega)] at this
            simpa using this
          have hfp5 : ∀ k, fpMp (⟨q, mp, m, .slice none 0 0, v5⟩ : Loc) L5 k → w.heap.size ≤ k := fun k hk => by
            rcases hF5 k hk with h | h
            · exact hfp k h
            · exact Nat.le_trans hKB.size h
          have hE5 : ∀ y ∈ E ++ [(l, (L1.length : Int) + 1)], y.1.length = 3 ∧ y.2 ≤ L5.length := fun y hy => by
            rcases List.mem_append.1 hy with hy | hy
            · have := hE3 y hy
              exact ⟨this.1, by omega⟩
            · rw [List.mem_singleton.1 hy]
              exact ⟨hl3, by simp only; omega⟩
          have hn5 : ((E ++ [(l, (L1.length : Int) + 1)]).map (·.2)).Nodup := by
            rw [List.map_append, List.nodup_append]
            refine ⟨hEn, by simp, fun a ha b hb hab => ?_⟩
            obtain ⟨y, hy, rfl⟩ := List.mem_map.1 ha
            rw [List.map_cons, List.map_nil, List.mem_singleton] at hb
            have := (hE3 y hy).2
            omega
          go_wp2_with fail
          exact ⟨⟨i + 1, v5, E ++ [(l, (L1.length : Int) + 1)], L5, by go_num, by simp, by omega, by omega, by simp; omega, hM5, hE5, hn5, hfp5, hKB.trans hk5 (fun k hk h => absurd (hfp k h) (by omega))⟩, by simp [intOf]; omega⟩
      · have hl3' : ((l.length : Int) != 3) = true := by simp; omega
        go_wp2_with fail
        exact ⟨⟨i + 1, v1, E, L1, by go_num, rfl, by omega, by omega, hEL, hM, hE3, hEn, hfp, hK⟩, by simp [intOf]; omega⟩

end Go.Proofs.Ytahabogjfcdjkaa
