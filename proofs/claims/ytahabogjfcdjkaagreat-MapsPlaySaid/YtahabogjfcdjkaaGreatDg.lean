import Derived.Test.YtahabogjfcdjkaaGreatDf
import Derived.Test.YtahabogjfcdjkaaGreatUp
import Derived.Laws.CopyRow
set_option linter.unusedSimpArgs false
set_option linter.unusedVariables false
namespace Go.Proofs.YtahabogjfcdjkaaGreat
open Go.RowKit

/-! ### the document's map: region, Update -/
section
variable {P : Program} {w : World} {ops : Array Oper} {rest : List Oper} {o : Oper} {a : Act} {Q : Exit → Act → World → Prop}
/-- 'copy(s[k+1:], s[k:])', whatever stands behind -/
theorem wpList_shiftG (hgd : o.guard = none) (d s : Operand) (t : TypeId) (ho : o.op = .call { callee := .builtin .copy, args := #[d, s], argTypes := #[t, t] })
    {E sz : Nat} {i0 : TypeInfo} (ht : P.underlying t = some (.slice E)) (hi : P.info? E = some i0) (hsz : i0.size = sz) (hpos : 0 < sz)
    (g n cap k : Nat) (css : List (List Value)) (ad : Addr) (c1 c2 : Nat) (hd : a.eval d = .slice (some ad) (n - (k + 1)) c1) (had : k + 1 < n → ad = ⟨g, (k + 1) * sz, none⟩) (hs : a.eval s = .slice (some ⟨g, k * sz, none⟩) (n - k) c2)
    (h : Sg w E sz (.slice (some ⟨g, 0, none⟩) n cap) css) (hone : ∀ c ∈ css, ∀ y ∈ c, y.oneCell' = true) (hk : k < n)
    (hK : ∀ w', Sg w' E sz (.slice (some ⟨g, 0, none⟩) n cap) (css.take (k + 1) ++ (css.drop k).take (n - (k + 1))) → Kept (fun x => x = g) w w' → wpList P ops Q rest (a.put o.dst (.int .i64 ((n - (k + 1) : Nat) : Int))) w') :
    wpList P ops Q (o :: rest) a w := by
  subst hsz
  obtain ⟨cur, hg, rfl, hnc, hcm, hcs, htk⟩ := h.row
  generalize hm : css.length - (k + 1) = m at *
  have hmn : Nat.min (css.length - k) m = m := Nat.min_eq_right (by omega)
  have hcl : ∀ c ∈ (css.drop k).take m, c.length = i0.size := fun c hc => h.1 c (List.mem_of_mem_drop (List.mem_of_mem_take hc))
  have hml : ((css.drop k).take m).length = m := by simp; omega
  have hfl : ((css.drop k).take m).flatten.length = m * i0.size := by rw [flatten_len hcl, hml]
  have hall : ∀ c ∈ css.take (k + 1) ++ (css.drop k).take m, c.length = i0.size := fun c hc => by
    rcases List.mem_append.1 hc with hc | hc
    · exact h.1 c (List.mem_of_mem_take hc)
    · exact hcl c hc
  have hll : (css.take (k + 1) ++ (css.drop k).take m).length = css.length := by simp; omega
  refine wpList_plain hgd fun K hKK => ?_
  have hsp : (css.drop k).flatten = ((css.drop k).take m).flatten ++ ((css.drop k).drop m).flatten := by rw [← List.flatten_append, List.take_append_drop]
  have hsrc : ∀ j u, ((css.drop k).take m).flatten[j]? = some u → w.cell? ((⟨g, k * i0.size, none⟩ : Addr).add j) = some u := fun j u hu =>
    h.cells k j u (by rw [hsp, List.getElem?_append_left (List.getElem?_eq_some_iff.1 hu).1]; exact hu)
  have hlo := run_loadCells_list (P := P) w ⟨g, k * i0.size, none⟩ ((css.drop k).take m).flatten hsrc
  rw [hfl] at hlo
  by_cases hm0 : m = 0
  · subst hm0
    have hr : (Builtin.copy_ #[t, t] o.type #[.slice (some ad) 0 c1, .slice (some ⟨g, k * i0.size, none⟩) (css.length - k) c2]).run P w = .ok (.int .i64 0) w := by
      simp [Builtin.copy_, run_underlying ht, sizeOf, typeInfo, hi, Builtin.lenOf, Builtin.firstCells, loadCells, loadCellsFrom, storeCells, goInt]
    unfold Oper.wp
    simp [execOp, ho, resolve, invoke, builtin, hs, hd, hr, Result.andThen]
    have := hK w (by rw [List.take_zero, List.append_nil, List.take_of_length_le (by omega)]; exact h) (Kept.refl _ w)
    exact hKK _ _ (by simpa using this)
  · obtain rfl := had (by omega)
    have hfit : (k + 1) * i0.size + ((css.drop k).take m).flatten.length ≤ cur.size := by
      rw [hfl, ← Nat.add_mul]
      exact Nat.le_trans (Nat.mul_le_mul_right _ (by omega)) hcs
    have hst := run_storeCells_at P g ((k + 1) * i0.size) E ((css.drop k).take m).flatten 0 cur w hg (by simpa using hfit) (fun y hy => by
      obtain ⟨c, hc, hyc⟩ := List.mem_flatten.1 hy
      exact hone c (List.mem_of_mem_drop (List.mem_of_mem_take hc)) y hyc)
    simp only [Nat.add_zero] at hst
    have hr : (Builtin.copy_ #[t, t] o.type #[.slice (some ⟨g, (k + 1) * i0.size, none⟩) m c1, .slice (some ⟨g, k * i0.size, none⟩) (css.length - k) c2]).run P w = .ok (.int .i64 m) (w.setRow g (cur.toList.take ((k + 1) * i0.size) ++ ((css.drop k).take m).flatten ++ cur.toList.drop ((k + 1) * i0.size + ((css.drop k).take m).flatten.length)).toArray) := by
      simp [Builtin.copy_, run_underlying ht, sizeOf, typeInfo, hi, Builtin.lenOf, Builtin.firstCells, hmn, hlo, hst, goInt]
    unfold Oper.wp
    simp [execOp, ho, resolve, invoke, builtin, hs, hd, hr, Result.andThen]
    refine hKK _ _ ?_
    have hpre : cur.toList.take ((k + 1) * i0.size) = (css.take (k + 1)).flatten := by
      have e : cur.toList.take ((k + 1) * i0.size) = (cur.toList.take (css.length * i0.size)).take ((k + 1) * i0.size) := by
        rw [List.take_take, Nat.min_eq_left (Nat.mul_le_mul_right _ (by omega))]
      have hsp2 : css.flatten = (css.take (k + 1)).flatten ++ (css.drop (k + 1)).flatten := by rw [← List.flatten_append, List.take_append_drop]
      have hl3 := flatten_len (css := css.take (k + 1)) (sz := i0.size) (fun c hc => h.1 c (List.mem_of_mem_take hc))
      rw [List.length_take, Nat.min_eq_left (by omega)] at hl3
      rw [e, htk, hsp2, ← hl3]
      exact List.take_left
    have hres := hK (w.setRow g (cur.toList.take ((k + 1) * i0.size) ++ ((css.drop k).take m).flatten ++ cur.toList.drop ((k + 1) * i0.size + ((css.drop k).take m).flatten.length)).toArray)
      ⟨hall, .inr ⟨g, cap, _, by rw [hll], setRow_heap _ g cur _ E _ hg, by rw [hll]; exact hnc, hcm, ?_, ?_⟩⟩ ⟨rfl, rfl, rfl, by simp, fun x hx hne => setRow_other _ g x _ hne⟩
    · simpa using hres
    · simp only [List.size_toArray, List.length_append, List.length_take, List.length_drop, Array.length_toList]
      omega
    · rw [hll, hpre, ← List.flatten_append]
      have e : css.length * i0.size = (css.take (k + 1) ++ (css.drop k).take m).flatten.length := by rw [flatten_len hall, hll]
      rw [e]
      exact List.take_left
end
theorem hidOf_le {n : Nat} (t : Bool) (h : hidN t ≤ n) : hidOf (hidN t : Nat) n = (hidN t : Nat) := by
  unfold hidOf
  split <;> split <;> omega
set_option maxHeartbeats 2000000 in
set_option maxRecDepth 100000 in
theorem rregion_any (x : RLoc) (S : MS) (L : List Rg) (vn : Nat) (w : World) (h : RMp w x S L) (hv : S.d.value = vn) (hv6 : vn ≤ 1000000) (hh : hidN S.d.timer ≤ vn) (hs : L.length < 100000) :
    Calls Tryz.prog 22 #[.pointer (some ⟨x.q, 0, none⟩)] w fun e w' => e = .returned (.int .i64 ((L.length : Int) + 1)) ∧ ∃ v' g cv,
      RMp w' { x with v := v' } S (L ++ [⟨g, cv, List.replicate vn 0, true, (hidN S.d.timer : Nat), false⟩]) ∧ (∀ k, fpR { x with v := v' } (L ++ [⟨g, cv, List.replicate vn 0, true, (hidN S.d.timer : Nat), false⟩]) k → fpR x L k ∨ w.heap.size ≤ k) ∧ Kept (fun k => k ∈ blM x.mp x.v L) w w' := by
  obtain ⟨u0, hU0, hU1, hU2, hU3⟩ := info_parts infoU8
  have hb := h.blk.cell
  simp only [MS.rcells] at hb
  rw [hv] at hb
  have HH := Lib.hid h
  have hHO := hidOf_le S.d.timer hh
  have HHO := Lib.hid hHO
  have hql := h.blk.lt
  clear hHO h
  obtain ⟨hd, hhd⟩ : ∃ d : Int, ((hidN S.d.timer : Nat) : Int) = d := ⟨_, rfl⟩
  have hd0 : 0 ≤ hd ∧ hd ≤ vn := by omega
  cases ht : S.d.timer
  case false =>
    rw [ht] at hb hhd HHO hh
    have hhv : hd = 0 := by rw [← hhd]; rfl
    subst hhv
    go_enter Tryz.func22, Tryz.ntmps22
    go_wp2_with fail
    refine wp_region_mix [.w, .w, .w, .l, .w, .w, .w, .w, .l, .k, .w, .t, .w] (by kernel_rfl) (by kernel_rfl) (fun w' => w'.cell? ⟨x.q, 6, none⟩ = some (.pointer (some ⟨x.mp, 0, none⟩)) ∧ w'.cell? ⟨x.q, 2, none⟩ = some (.int .i64 vn)) ?_
    have HC : w.drew.cell? ⟨x.q, 6, none⟩ = some (.pointer (some ⟨x.mp, 0, none⟩)) ∧ w.drew.cell? ⟨x.q, 2, none⟩ = some (.int .i64 vn) := ⟨hb 6, hb 2⟩
    repeat (refine mix_w1 ?_; go_big_quiet_step (fail); refine wpQuiet_nil ?_)
    refine mix_load1 HC rfl 29 (.tmp 11) rfl (fun w => by kernel_rfl) ⟨x.q, 6, none⟩ (.pointer (some ⟨x.mp, 0, none⟩)) rfl (fun w' hw' => hw'.1) ?_
    simp only [Act.put, List.setIfInBounds_toArray, List.set_cons_succ, List.set_cons_zero]
    repeat (refine mix_w1 ?_; go_big_quiet_step (fail); refine wpQuiet_nil ?_)
    refine mix_load1 HC rfl 3 (.tmp 16) rfl (fun w => by kernel_rfl) ⟨x.q, 2, none⟩ (.int .i64 vn) rfl (fun w' hw' => hw'.2) ?_
    simp only [Act.put, List.setIfInBounds_toArray, List.set_cons_succ, List.set_cons_zero]
    refine mix_k HC fun Q' hQ' => ?_
    refine wpList_makeBs (w := w.drew) rfl (.tmp 17) (.tmp 17) 39 rfl Tryz.underlying39 hU0 hU1 hU2 hU3 vn rfl rfl (by omega) ?_
    intro w3 hB3 hk3'
    have hk3 : Kept (fun _ => False) w w3 := (Kept.drew (Kept.refl _ w)).trans hk3' (fun _ _ h => h)
    have HC3 : w3.cell? ⟨x.q, 6, none⟩ = some (.pointer (some ⟨x.mp, 0, none⟩)) ∧ w3.cell? ⟨x.q, 2, none⟩ = some (.int .i64 vn) := ⟨(hk3.cell (p := ⟨x.q, 6, none⟩) hql id).trans (hb 6), (hk3.cell (p := ⟨x.q, 2, none⟩) hql id).trans (hb 2)⟩
    go_wp2_with fail
    refine hQ' _ _ HC3 ?_
    clear hQ' Q'
    try simp only [Act.put, List.setIfInBounds_toArray, List.set_cons_succ, List.set_cons_zero]
    repeat (refine mix_w1 ?_; go_big_quiet_step (fail); refine wpQuiet_nil ?_)
    have HM3 := Lib.hid (HH.out.quiet hk3)
    have HB3 := Lib.hid hB3
    have HK3 := Lib.hid hk3
    clear hB3 hk3 hk3' HC HC3
    refine mix_t fun Q' hQ' => ?_
    go_wp2_with fail
    refine (radd_any x.mp x.v L _ (List.replicate vn 0) true 0 w3 HM3.out.mem HB3.out.by_ (by simp; omega) hs (by rw [List.length_replicate]; exact hd0)).mono ?_
    rintro e w4 ⟨rfl, v', g, cv, hm4, hbl4, hk4⟩
    go_wp2_with fail
    refine mix_w1 ?_; go_big_quiet_step (fail); refine wpQuiet_nil ?_
    refine mix_done ?_
    go_wp2_with fail
    go_ret
    rw [List.length_replicate, show hidOf 0 vn = ((hidN false : Nat) : Int) from HHO.out] at hm4 hbl4
    have hmem := HM3.out.memory hk4 hm4 hbl4 (fun i r hi => ⟨r, by rw [List.getElem?_append_left (List.getElem?_eq_some_iff.1 hi).1]; exact hi, rfl⟩)
    have hs3 := HK3.out.size
    refine ⟨rfl, v', g, cv, hmem, fun k hk => ?_, (HK3.out.mono (fun _ _ h => h.elim)).trans hk4 (fun _ _ h => h)⟩
    rcases hk with hk | hk | hk | hk
    · exact .inl (.inl hk)
    · exact .inl (.inr (.inl hk))
    · exact .inl (.inr (.inr (.inl hk)))
    · rcases hbl4 k hk with e | e
      · exact .inl (.inr (.inr (.inr e)))
      · exact .inr (by omega)
  case true =>
    rw [ht] at hb hhd HHO hh
    have hhv : hd = 16 := by rw [← hhd]; rfl
    subst hhv
    go_enter Tryz.func22, Tryz.ntmps22
    go_wp2_with fail
    refine wp_region_mix [.w, .w, .w, .l, .w, .w, .w, .w, .l, .k, .w, .t, .w] (by kernel_rfl) (by kernel_rfl) (fun w' => w'.cell? ⟨x.q, 6, none⟩ = some (.pointer (some ⟨x.mp, 0, none⟩)) ∧ w'.cell? ⟨x.q, 2, none⟩ = some (.int .i64 vn)) ?_
    have HC : w.drew.cell? ⟨x.q, 6, none⟩ = some (.pointer (some ⟨x.mp, 0, none⟩)) ∧ w.drew.cell? ⟨x.q, 2, none⟩ = some (.int .i64 vn) := ⟨hb 6, hb 2⟩
    repeat (refine mix_w1 ?_; go_big_quiet_step (fail); refine wpQuiet_nil ?_)
    refine mix_load1 HC rfl 29 (.tmp 11) rfl (fun w => by kernel_rfl) ⟨x.q, 6, none⟩ (.pointer (some ⟨x.mp, 0, none⟩)) rfl (fun w' hw' => hw'.1) ?_
    simp only [Act.put, List.setIfInBounds_toArray, List.set_cons_succ, List.set_cons_zero]
    repeat (refine mix_w1 ?_; go_big_quiet_step (fail); refine wpQuiet_nil ?_)
    refine mix_load1 HC rfl 3 (.tmp 16) rfl (fun w => by kernel_rfl) ⟨x.q, 2, none⟩ (.int .i64 vn) rfl (fun w' hw' => hw'.2) ?_
    simp only [Act.put, List.setIfInBounds_toArray, List.set_cons_succ, List.set_cons_zero]
    refine mix_k HC fun Q' hQ' => ?_
    refine wpList_makeBs (w := w.drew) rfl (.tmp 17) (.tmp 17) 39 rfl Tryz.underlying39 hU0 hU1 hU2 hU3 vn rfl rfl (by omega) ?_
    intro w3 hB3 hk3'
    have hk3 : Kept (fun _ => False) w w3 := (Kept.drew (Kept.refl _ w)).trans hk3' (fun _ _ h => h)
    have HC3 : w3.cell? ⟨x.q, 6, none⟩ = some (.pointer (some ⟨x.mp, 0, none⟩)) ∧ w3.cell? ⟨x.q, 2, none⟩ = some (.int .i64 vn) := ⟨(hk3.cell (p := ⟨x.q, 6, none⟩) hql id).trans (hb 6), (hk3.cell (p := ⟨x.q, 2, none⟩) hql id).trans (hb 2)⟩
    go_wp2_with fail
    refine hQ' _ _ HC3 ?_
    clear hQ' Q'
    try simp only [Act.put, List.setIfInBounds_toArray, List.set_cons_succ, List.set_cons_zero]
    repeat (refine mix_w1 ?_; go_big_quiet_step (fail); refine wpQuiet_nil ?_)
    have HM3 := Lib.hid (HH.out.quiet hk3)
    have HB3 := Lib.hid hB3
    have HK3 := Lib.hid hk3
    clear hB3 hk3 hk3' HC HC3
    refine mix_t fun Q' hQ' => ?_
    go_wp2_with fail
    refine (radd_any x.mp x.v L _ (List.replicate vn 0) true 16 w3 HM3.out.mem HB3.out.by_ (by simp; omega) hs (by rw [List.length_replicate]; exact hd0)).mono ?_
    rintro e w4 ⟨rfl, v', g, cv, hm4, hbl4, hk4⟩
    go_wp2_with fail
    refine mix_w1 ?_; go_big_quiet_step (fail); refine wpQuiet_nil ?_
    refine mix_done ?_
    go_wp2_with fail
    go_ret
    rw [List.length_replicate, show hidOf 16 vn = ((hidN true : Nat) : Int) from HHO.out] at hm4 hbl4
    have hmem := HM3.out.memory hk4 hm4 hbl4 (fun i r hi => ⟨r, by rw [List.getElem?_append_left (List.getElem?_eq_some_iff.1 hi).1]; exact hi, rfl⟩)
    have hs3 := HK3.out.size
    refine ⟨rfl, v', g, cv, hmem, fun k hk => ?_, (HK3.out.mono (fun _ _ h => h.elim)).trans hk4 (fun _ _ h => h)⟩
    rcases hk with hk | hk | hk | hk
    · exact .inl (.inl hk)
    · exact .inl (.inr (.inl hk))
    · exact .inl (.inr (.inr (.inl hk)))
    · rcases hbl4 k hk with e | e
      · exact .inl (.inr (.inr (.inr e)))
      · exact .inr (by omega)
set_option maxHeartbeats 1000000 in
theorem rupdate_len (x : RLoc) (S : MS) (L : List Rg) (A : Option Addr) (n c : Nat) (A2 : Option Addr) (n2 c2 : Nat) (flags : Int) (w : World) (h : RMp w x S L) (ha : asksC S.d n ≠ 0) :
    Calls Tryz.prog 23 #[.pointer (some ⟨x.q, 0, none⟩), .slice A n c, .slice A2 n2 c2, .int .u64 flags] w fun e w' => e = .returned (.int .i64 (asksC S.d n)) ∧ w = w' := by
  have HA := Lib.hid (rasked_len x S L A n c w h)
  have hne : (asksC S.d n != 0) = true := by simpa using ha
  have hne2 : (asksC S.d n == 0) = false := by simpa using ha
  generalize asksC S.d n = c0 at *
  clear ha h
  go_enter Tryz.func23, Tryz.ntmps23
  go_wp2_with (go_at_call 55; refine HA.out.mono ?_; rintro e w1 ⟨rfl, rfl⟩)
  go_ret
  exact ⟨rfl, rfl⟩
set_option maxHeartbeats 1000000 in
theorem rupdate_vlen (x : RLoc) (S : MS) (L : List Rg) (A : Option Addr) (n c : Nat) (A2 : Option Addr) (n2 c2 : Nat) (flags : Int) (w : World) (h : RMp w x S L) (ha : asksC S.d n = 0) (hl : (n2 : Int) ≠ S.d.value) :
    Calls Tryz.prog 23 #[.pointer (some ⟨x.q, 0, none⟩), .slice A n c, .slice A2 n2 c2, .int .u64 flags] w fun e w' => e = .returned (.int .i64 91) ∧ w = w' := by
  have hA := rasked_len x S L A n c w h
  rw [ha] at hA
  have HA := Lib.hid hA
  have hb := h.blk.cell
  simp only [MS.rcells] at hb
  have hne : ((n2 : Int) != S.d.value) = true := by simpa using hl
  clear hA ha h hl
  go_enter Tryz.func23, Tryz.ntmps23
  go_wp2_with (go_at_call 55; refine HA.out.mono ?_; rintro e w1 ⟨rfl, rfl⟩)
  go_ret
  exact ⟨rfl, rfl⟩
set_option maxHeartbeats 4000000 in
set_option maxRecDepth 100000 in
theorem rupdate_no (x : RLoc) (S : MS) (L : List Rg) (kv bv : Value) (k l : List UInt8) (flags : Int) (w : World) (h : RMp w x S L) (hk : By w kv k) (hbv : By w bv l) (ha : asksC S.d k.length = 0) (hl : (l.length : Int) = S.d.value) (hf0 : 0 ≤ flags) (hmx : (S.ent.length : Int) ≤ S.d.entries)
    (hr : refC S (lookS S.ent k).isSome flags ≠ 0) :
    Calls Tryz.prog 23 #[.pointer (some ⟨x.q, 0, none⟩), kv, bv, .int .u64 flags] w fun e w' => e = .returned (.int .i64 (refC S (lookS S.ent k).isSome flags)) ∧ Kept (fun _ => False) w w' := by
  obtain ⟨A, c, rfl⟩ := hk.any
  obtain ⟨A2, c2, rfl⟩ := hbv.any
  have hA := rasked_len x S L A k.length c w h
  rw [ha] at hA
  have HA := Lib.hid hA
  have HAT := Lib.hid (rat_any x S L _ k w h hk)
  have HH := Lib.hid h
  have hb0 := h.blk.cell
  simp only [MS.rcells] at hb0
  have hlb : ((l.length : Int) != S.d.value) = false := by simpa using hl
  have hfew := h.few
  obtain ⟨lk, hlk⟩ : ∃ lk, lookS S.ent k = lk := ⟨_, rfl⟩
  rw [hlk] at hr ⊢
  have HLK := Lib.hid hlk
  by_cases hf : 2 < flags
  case pos =>
    have hR : refC S lk.isSome flags = 96 := if_pos hf
    rw [hR]
    have f3 : decide (flags > 2) = true := decide_eq_true (by omega)
    have f3' : decide ((2 : Int) < flags) = true := decide_eq_true (by omega)
    clear hA ha h hk hbv hl hlk hr hmx hf hR HAT
    go_enter Tryz.func23, Tryz.ntmps23
    go_wp2_with (go_at_call 55; refine HA.out.mono ?_; rintro e w1 ⟨rfl, rfl⟩)
    go_ret
    exact ⟨rfl, Kept.refl _ w⟩
  case neg =>
  have f3 : decide (flags > 2) = false := decide_eq_false (by omega)
  have f3' : decide ((2 : Int) < flags) = false := decide_eq_false (by omega)
  cases lk with
  | some id =>
    have hf1 : flags = 1 := by
      unfold refC at hr
      rw [if_neg hf] at hr
      by_cases e : flags = 1
      · exact e
      · rw [if_neg (by simp [e])] at hr
        simp at hr
    have hR : refC S (some id).isSome flags = 94 := by unfold refC; rw [if_neg hf, if_pos ⟨rfl, hf1⟩]
    rw [hR]
    have f1 : (flags == 1) = true := beq_iff_eq.2 (by omega)
    clear hA ha h hk hbv hl hlk hr hmx hf hR hf1
    cases e1 : (S.d.kind == 1)
    all_goals
      go_enter Tryz.func23, Tryz.ntmps23
      go_wp2_with (go_at_call 55; refine HA.out.mono ?_; rintro e w1 ⟨rfl, rfl⟩)
      refine HAT.out.mono ?_
      rintro e w2 ⟨a, rfl, hF, hk2⟩
      have hM := HH.out.quiet hk2
      have hb := hM.blk.cell
      simp only [MS.rcells] at hb
      obtain ⟨lA, lC, hlv⟩ := Sg.any hM.ent
      rw [List.length_map] at hlv
      rcases hF with ⟨rfl, hs⟩ | ⟨j, y, rfl, hj, hyk, hs, -⟩
      case inl => exact absurd (HLK.out.symm.trans hs) (by simp)
      have hjd : decide ((j : Int) < 0) = false := decide_eq_false (by omega)
      have hjd' : decide ((j : Int) ≥ 0) = true := decide_eq_true (by omega)
      have hjd2 : decide ((0 : Int) ≤ j) = true := decide_eq_true (by omega)
      rw [hlv] at hb
      clear hM hlv hs hyk hj
      go_wp2_with fail
      go_ret
      exact ⟨rfl, hk2⟩
  | none =>
    by_cases hk1 : S.d.kind = 1
    · have hR : refC S (none : Option Int).isSome flags = 93 := by unfold refC; rw [if_neg hf, if_neg (by simp), if_neg (by simp), if_pos hk1]
      rw [hR]
      have e1 : (S.d.kind == 1) = true := by simpa using hk1
      rw [hk1] at hb0
      have HK1 := Lib.hid hk1
      clear hA ha h hk hbv hl hlk hr hmx hf hR hk1 e1
      go_enter Tryz.func23, Tryz.ntmps23
      go_wp2_with (go_at_call 55; refine HA.out.mono ?_; rintro e w1 ⟨rfl, rfl⟩)
      refine HAT.out.mono ?_
      rintro e w2 ⟨a, rfl, hF, hk2⟩
      have hM := HH.out.quiet hk2
      have hb := hM.blk.cell
      simp only [MS.rcells] at hb
      obtain ⟨lA, lC, hlv⟩ := Sg.any hM.ent
      rw [List.length_map] at hlv
      rcases hF with ⟨rfl, -⟩ | ⟨j, y, rfl, hj, -, hs, -⟩
      case inr => exact absurd (HLK.out.symm.trans hs) (by simp)
      rw [hlv, HK1.out] at hb
      clear hM hlv
      go_wp2_with fail
      go_ret
      exact ⟨rfl, hk2⟩
    · have e1 : (S.d.kind == 1) = false := by simpa using hk1
      by_cases hf2 : flags = 2
      · have hR : refC S (none : Option Int).isSome flags = 92 := by unfold refC; rw [if_neg hf, if_neg (by simp), if_neg (by simp), if_neg hk1, if_pos hf2]
        rw [hR]
        have f1 : (flags == 1) = false := beq_eq_false_iff_ne.2 (by omega)
        have f2 : (flags == 2) = true := beq_iff_eq.2 (by omega)
        clear hA ha h hk hbv hl hlk hr hmx hf hR hk1 hf2
        go_enter Tryz.func23, Tryz.ntmps23
        go_wp2_with (go_at_call 55; refine HA.out.mono ?_; rintro e w1 ⟨rfl, rfl⟩)
        refine HAT.out.mono ?_
        rintro e w2 ⟨a, rfl, hF, hk2⟩
        have hM := HH.out.quiet hk2
        have hb := hM.blk.cell
        simp only [MS.rcells] at hb
        obtain ⟨lA, lC, hlv⟩ := Sg.any hM.ent
        rw [List.length_map] at hlv
        rcases hF with ⟨rfl, -⟩ | ⟨j, y, rfl, hj, -, hs, -⟩
        case inr => exact absurd (HLK.out.symm.trans hs) (by simp)
        rw [hlv] at hb
        clear hM hlv
        go_wp2_with fail
        go_ret
        exact ⟨rfl, hk2⟩
      · have hfull : S.d.entries ≤ S.ent.length := by
          unfold refC at hr
          rw [if_neg hf, if_neg (by simp), if_neg (by simp), if_neg hk1, if_neg hf2] at hr
          by_cases e : S.d.entries ≤ S.ent.length
          · exact e
          · rw [if_neg e] at hr; exact absurd rfl hr
        have hR : refC S (none : Option Int).isSome flags = 93 := by unfold refC; rw [if_neg hf, if_neg (by simp), if_neg (by simp), if_neg hk1, if_neg hf2, if_pos hfull]
        rw [hR]
        have hee : ((S.ent.length : Int) == S.d.entries) = true := beq_iff_eq.2 (by omega)
        have f2 : (flags == 2) = false := beq_eq_false_iff_ne.2 (by omega)
        clear hA ha h hk hbv hl hlk hr hmx hf hR hk1 hf2 hfull
        go_enter Tryz.func23, Tryz.ntmps23
        go_wp2_with (go_at_call 55; refine HA.out.mono ?_; rintro e w1 ⟨rfl, rfl⟩)
        refine HAT.out.mono ?_
        rintro e w2 ⟨a, rfl, hF, hk2⟩
        have hM := HH.out.quiet hk2
        have hb := hM.blk.cell
        simp only [MS.rcells] at hb
        obtain ⟨lA, lC, hlv⟩ := Sg.any hM.ent
        rw [List.length_map] at hlv
        rcases hF with ⟨rfl, -⟩ | ⟨j, y, rfl, hj, -, hs, -⟩
        case inr => exact absurd (HLK.out.symm.trans hs) (by simp)
        rw [hlv] at hb
        clear hM hlv
        go_wp2_with fail
        refine wp_region_mix0 [.w, .w, .w, .w, .w, .w, .l, .w, .w, .w, .w, .w, .l, .w, .w, .w] (by kernel_rfl) (by kernel_rfl) ?_
        repeat (first
          | (refine mix_w1 ?_; go_big_quiet_step (fail); refine wpQuiet_nil ?_)
          | (refine mix_l1 rfl ?_; go_big_quiet_step (fail); refine wpQuiet_nil ?_))
        refine mix_nil ?_
        go_wp2_with fail
        go_ret
        exact ⟨rfl, hk2.drew⟩

end Go.Proofs.YtahabogjfcdjkaaGreat
