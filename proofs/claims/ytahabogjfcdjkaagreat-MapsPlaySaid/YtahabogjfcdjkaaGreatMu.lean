import Derived.Test.YtahabogjfcdjkaaGreatMv
set_option linter.unusedSimpArgs false
set_option linter.unusedVariables false
namespace Go.Proofs.YtahabogjfcdjkaaGreat
open Go.RowKit

set_option maxHeartbeats 1000000 in
theorem update_bad (x : Loc) (S : MS) (L : List Rg) (kv bv : Value) (k : List UInt8) (flags : Int) (w : World) (h : Mp w x S L) (hk : By w kv k) (ha : asksC S.d k.length ≠ 0) :
    Calls Tryz.prog 16 #[.pointer (some ⟨x.q, 0, none⟩), kv, bv, .int .u64 flags] w fun e w' => e = .returned (.int .i64 (asksC S.d k.length)) ∧ w = w' := by
  have hlk := lookup_bad x S L kv k w h hk ha
  have hne : (asksC S.d k.length != 0) = true := by simpa using ha
  generalize asksC S.d k.length = c at *
  have HLK := Lib.hid hlk
  clear hlk ha
  go_enter Tryz.func16, Tryz.ntmps16
  go_wp2_with (go_at_call 33; refine HLK.out.mono ?_; rintro e w1 ⟨rfl, rfl⟩)
  go_ret
  exact ⟨rfl, rfl⟩

set_option maxHeartbeats 1000000 in
theorem update_len (x : Loc) (S : MS) (L : List Rg) (kv bv : Value) (k l : List UInt8) (flags : Int) (w : World) (h : Mp w x S L) (hk : By w kv k) (hb : By w bv l) (ha : asksC S.d k.length = 0) (hl : (l.length : Int) ≠ S.d.value) :
    Calls Tryz.prog 16 #[.pointer (some ⟨x.q, 0, none⟩), kv, bv, .int .u64 flags] w fun e w' => e = .returned (.int .i64 91) ∧ w' = w.drew := by
  have hb0 := h.blk.cell
  simp only [MS.cells] at hb0
  obtain ⟨A, c, rfl⟩ := hb.any
  have hlk := lookup_ok x S L kv k w h hk ha
  have hne : ((l.length : Int) != S.d.value) = true := by simpa using hl
  have HLK := Lib.hid hlk
  clear hlk ha hl
  generalize (lookS S.ent k).getD 0 = a0 at *
  generalize (lookS S.ent k).isSome = a1 at *
  go_enter Tryz.func16, Tryz.ntmps16
  go_wp2_with (go_at_call 33; refine HLK.out.mono ?_; rintro e w1 ⟨rfl, rfl⟩)
  go_ret
  exact ⟨rfl, rfl⟩

set_option maxHeartbeats 1000000 in
theorem update_refused (x : Loc) (S : MS) (L : List Rg) (kv bv : Value) (k l : List UInt8) (flags : Int) (w : World) (h : Mp w x S L) (hk : By w kv k) (hb : By w bv l) (ha : asksC S.d k.length = 0) (hl : (l.length : Int) = S.d.value) (hr : refC S (lookS S.ent k).isSome flags ≠ 0) :
    Calls Tryz.prog 16 #[.pointer (some ⟨x.q, 0, none⟩), kv, bv, .int .u64 flags] w fun e w' => e = .returned (.int .i64 (refC S (lookS S.ent k).isSome flags)) ∧ ∃ n, w' = w.drewN n := by
  have hb0 := h.blk.cell
  simp only [MS.cells] at hb0
  obtain ⟨A, c, rfl⟩ := hb.any
  have hlk := lookup_ok x S L kv k w h hk ha
  have hne : ((l.length : Int) != S.d.value) = false := by simpa using hl
  have href := refuses_any x S L (lookS S.ent k).isSome flags _ h.drew
  have hr' : (refC S (lookS S.ent k).isSome flags != 0) = true := by simpa using hr
  generalize (lookS S.ent k).getD 0 = a0 at *
  generalize (lookS S.ent k).isSome = a1 at *
  generalize refC S a1 flags = c9 at *
  have HLK := Lib.hid hlk
  have HREF := Lib.hid href
  clear hlk ha hl href hr
  go_enter Tryz.func16, Tryz.ntmps16
  go_wp2_with (first
    | (go_at_call 33; refine HLK.out.mono ?_; rintro e w1 ⟨rfl, rfl⟩)
    | (go_at_call 42; refine HREF.out.mono ?_; rintro e w1 ⟨rfl, n, rfl⟩))
  go_ret
  exact ⟨rfl, 1 + n, by rw [← World.drewN_drewN]⟩

theorem naMap : ∀ w, (isAgg 58).run Tryz.prog w = .ok false w := fun w => by kernel_rfl

/-- an entry's bytes are written over -/
def Rg.over (r : Rg) (n : Nat) (l : List UInt8) : Rg := { r with b := r.b.take n ++ l.drop n ++ r.b.drop (n + (l.drop n).length) }

theorem Mp.memory0 {w w' : World} {x : Loc} {S : MS} {L L' : List Rg} (h : Mp w x S L) {F : Nat → Prop} (hk : Kept F w w') (hF : ∀ k, F k → k ∈ blM x.mp x.v L) (hm : IsMem w' x.mp x.v L') (hb : blM x.mp x.v L' = blM x.mp x.v L) (hl : ∀ (i : Nat) (r : Rg), L[i]? = some r → ∃ r', L'[i]? = some r' ∧ r'.b.length = r.b.length) :
    Mp w' x S L' :=
  h.memory (v' := x.v) (hk.mono (fun k _ e => hF k e)) hm (fun k hk => .inl (by rw [← hb]; exact hk)) hl

theorem byDrop {w : World} {v : Value} {hn : Nat} {l : List UInt8} (h : By w v l) (hle : hn ≤ l.length) (hpos : 0 < l.length) :
    ∃ dv, (∀ w' : World, (Instr.sliceAt 39 v (some (.int .i64 hn)) none none).run Tryz.prog w' = .ok dv w') ∧ By w dv (l.drop hn) := by
  obtain ⟨i0, hI0, hI1, hI2, hI3⟩ := info_parts infoU8
  rcases h with ⟨c', _, rfl⟩ | ⟨b, off, c, rfl, hb, hcp, hc⟩
  · simp at hpos
  · refine ⟨.slice (some (if c = hn then ⟨b, off, none⟩ else ⟨b, off + hn, none⟩)) (l.length - hn) (c - hn), fun w' => ?_, ?_⟩
    · simp [Instr.sliceAt, Instr.slice, run_underlying Tryz.underlying39, Instr.sliceBounds, run_sliceBound, sizeOf, typeInfo, hI0, hI2, hle]
      split <;> simp [add_n]
    · refine .inr ⟨b, if c = hn then off else off + hn, c - hn, by split <;> simp, hb, by simp; omega, fun j u hu => ?_⟩
      have hj : j < (l.drop hn).length := by have := (List.getElem?_eq_some_iff.1 hu).1; rwa [bcells_len] at this
      have hd : hn < c := by simp at hj; omega
      rw [if_neg (by omega)]
      have hu2 : (bcells l)[hn + j]? = some u := by
        have : bcells (l.drop hn) = (bcells l).drop hn := by simp [bcells]
        rw [this, List.getElem?_drop] at hu
        exact hu
      rw [show off + hn + j = off + (hn + j) by omega]
      exact hc (hn + j) u hu2

set_option maxHeartbeats 2000000 in
set_option maxRecDepth 100000 in
theorem update_old (x : Loc) (S : MS) (L : List Rg) (kv bv : Value) (k l : List UInt8) (flags : Int) (w : World) (h : Mp w x S L) (hk : By w kv k) (hb : By w bv l) (ha : asksC S.d k.length = 0) (hl : (l.length : Int) = S.d.value)
    {i : Nat} {r : Rg} (hlk0 : lookS S.ent k = some ((i : Int) + 1)) (hi : L[i]? = some r) (hrl : r.b.length = l.length) (hr : refC S true flags = 0) (hh : hidN S.d.timer ≤ l.length) (hpos : 0 < l.length) :
    Calls Tryz.prog 16 #[.pointer (some ⟨x.q, 0, none⟩), kv, bv, .int .u64 flags] w fun e w' => e = .returned (.int .i64 0) ∧
      Mp w' x S (L.set i { r with b := r.b.take (hidN S.d.timer) ++ l.drop (hidN S.d.timer) }) ∧ blM x.mp x.v (L.set i { r with b := r.b.take (hidN S.d.timer) ++ l.drop (hidN S.d.timer) }) = blM x.mp x.v L ∧ Kept (fun k => k ∈ blM x.mp x.v L) w w' := by
  have hb0 := h.blk.cell
  simp only [MS.cells] at hb0
  have hlk := lookup_ok x S L kv k w h hk ha
  rw [hlk0] at hlk
  simp only [Option.getD_some, Option.isSome_some] at hlk
  have hne : ((l.length : Int) != S.d.value) = false := by simpa using hl
  have href := refuses_any x S L true flags _ h.drew
  rw [hr] at href
  obtain ⟨A, c, rfl⟩ := hb.any
  have HLK := Lib.hid hlk
  have HREF := Lib.hid href
  have HI := Lib.hid hi
  have HRL := Lib.hid hrl
  clear hlk ha hl href hr hlk0 hi hrl
  have hhn : (if S.d.timer = true then (16 : Int) else 0) = ((hidN S.d.timer : Nat) : Int) := by unfold hidN; split <;> rfl
  generalize hq : hidN S.d.timer = hn at *
  have HQ := Lib.hid hq
  have HHN := Lib.hid hhn
  clear hhn hq
  obtain ⟨dv, hsl, hdv⟩ := byDrop hb hh hpos
  go_enter Tryz.func16, Tryz.ntmps16
  go_wp2_with (first
    | (go_at_call 33; refine HLK.out.mono ?_; rintro e w1 ⟨rfl, rfl⟩)
    | (go_at_call 42; refine HREF.out.mono ?_; rintro e w1 ⟨rfl, n, rfl⟩))
  have hx : Mp (w.drewN (1 + n + 1)) x S L := h.drewN _
  have hxb : By (w.drewN (1 + n + 1)) dv (l.drop hn) := hdv.drewN _
  refine wp_region_mix0 [.w, .w, .w, .l, .w, .w, .k, .w, .w, .k, .w, .t] (by kernel_rfl) (by kernel_rfl) ?_
  repeat (first
    | (refine mix_w1 ?_; go_big_quiet_step (fail); refine wpQuiet_nil ?_)
    | (refine mix_l1 rfl ?_; go_big_quiet_step (fail); refine wpQuiet_nil ?_))
  refine mix_k rfl fun Q' hQ' => ?_
  go_wp2_with fail
  refine (hidden_any x S L _ hx).mono ?_
  rintro e w3 ⟨rfl, rfl⟩
  rw [HHN.out]
  go_wp2_with fail
  refine hQ' _ _ rfl ?_
  clear hQ' Q'
  repeat (refine mix_w1 ?_; go_big_quiet_step (fail); refine wpQuiet_nil ?_)
  refine mix_k rfl fun Q' hQ' => ?_
  go_wp2_with fail
  refine (hidden_any x S L _ hx).mono ?_
  rintro e w3 ⟨rfl, rfl⟩
  rw [HHN.out]
  go_wp2_with fail
  refine hQ' _ _ rfl ?_
  clear hQ' Q'
  repeat (refine mix_w1 ?_; go_big_quiet_step (fail); refine wpQuiet_nil ?_)
  have hle2 : hn + (l.drop hn).length ≤ r.b.length := by rw [HRL.out]; simp; omega
  have hbe : r.b.take hn ++ l.drop hn ++ r.b.drop (hn + (l.drop hn).length) = r.b.take hn ++ l.drop hn := by
    have hd : r.b.drop (hn + (l.drop hn).length) = [] := List.drop_of_length_le (by have := HRL.out; simp; omega)
    rw [hd, List.append_nil]
  have hset := set_in x.mp x.v L i hn dv (l.drop hn) _ hx.mem HI.out hxb hle2 (by rw [HRL.out]; exact hpos)
  rw [hbe] at hset
  have HSET := Lib.hid hset
  clear hset hbe hle2
  refine mix_t fun Q' hQ' => ?_
  go_wp2_with fail
  refine HSET.out.mono ?_
  rintro e w4 ⟨rfl, hM4, hB4, hk4⟩
  have hmem : ∀ k, r.bv.ownBlock = some k → k ∈ blM x.mp x.v L := fun k hk => by
    unfold blM
    exact List.mem_cons_of_mem _ (List.mem_append_right _ (List.mem_flatMap.2 ⟨r, List.mem_of_getElem? HI.out, List.mem_cons_of_mem _ (mem_ob.2 hk)⟩))
  have h4 := hx.memory0 hk4 hmem hM4 hB4 (fun j s hj => by
    by_cases e : i = j
    · subst e
      have hil : i < L.length := (List.getElem?_eq_some_iff.1 hj).1
      have : s = r := by have := HI.out; rw [hj] at this; exact Option.some.inj this
      subst this
      refine ⟨_, by rw [List.getElem?_set_self hil], ?_⟩
      have := HRL.out
      simp
      omega
    · exact ⟨s, by rw [List.getElem?_set_ne e]; exact hj, rfl⟩)
  have hkf : Kept (fun k => k ∈ blM x.mp x.v L) w w4 := Kept.trans ((Kept.refl _ w).drewN _) (hk4.mono (fun k _ e => hmem k e)) (fun _ _ h => h)
  go_wp2_with fail
  refine mix_nil ?_
  go_wp2_with fail
  go_ret
  exact ⟨rfl, h4, hB4, hkf⟩

set_option maxHeartbeats 2000000 in
set_option maxRecDepth 100000 in
theorem update_new (x : Loc) (S : MS) (L : List Rg) (kv bv : Value) (k l : List UInt8) (flags : Int) (w : World) (h : Mp w x S L) (hk : By w kv k) (hkx : ∀ g, kv.ownBlock = some g → g ∉ blM x.mp x.v L) (hb : By w bv l) (ha : asksC S.d k.length = 0) (hl : (l.length : Int) = S.d.value)
    (hlk0 : lookS S.ent k = none) (hr : refC S false flags = 0) (hh : hidN S.d.timer ≤ l.length) (hpos : 0 < l.length) (hl6 : l.length ≤ 1000000) (hs : L.length < 100000) (hf : S.ent.length < 1000000) :
    Calls Tryz.prog 16 #[.pointer (some ⟨x.q, 0, none⟩), kv, bv, .int .u64 flags] w fun e w' => e = .returned (.int .i64 0) ∧ ∃ v' g cv,
      Mp w' { x with v := v' } { S with ent := S.ent ++ [(k, (L.length : Int) + 1)] } (L ++ [⟨g, cv, List.replicate (hidN S.d.timer) 0 ++ l.drop (hidN S.d.timer), true, (hidN S.d.timer : Nat), false⟩]) ∧
      (∀ n, fpMp { x with v := v' } (L ++ [⟨g, cv, List.replicate (hidN S.d.timer) 0 ++ l.drop (hidN S.d.timer), true, (hidN S.d.timer : Nat), false⟩]) n → fpMp x L n ∨ w.heap.size ≤ n) ∧ Kept (fun n => n = x.m ∨ n ∈ blM x.mp x.v L) w w' := by
  have hb0 := h.blk.cell
  simp only [MS.cells] at hb0
  have hlk := lookup_ok x S L kv k w h hk ha
  rw [hlk0] at hlk
  simp only [Option.getD_none, Option.isSome_none] at hlk
  have hne : ((l.length : Int) != S.d.value) = false := by simpa using hl
  have href := refuses_any x S L false flags _ h.drew
  rw [hr] at href
  obtain ⟨A, c, rfl⟩ := hb.any
  have HLK := Lib.hid hlk
  have HREF := Lib.hid href
  have HL0 := Lib.hid hlk0
  have HLV := Lib.hid hl
  clear hlk ha hl href hr hlk0
  go_enter Tryz.func16, Tryz.ntmps16
  go_wp2_with (first
    | (go_at_call 33; refine HLK.out.mono ?_; rintro e w1 ⟨rfl, rfl⟩)
    | (go_at_call 42; refine HREF.out.mono ?_; rintro e w1 ⟨rfl, n, rfl⟩))
  have hx : Mp (w.drewN (1 + n + 1)) x S L := h.drewN _
  have hxk : By (w.drewN (1 + n + 1)) kv k := hk.drewN _
  have hxb : By (w.drewN (1 + n + 1)) (.slice A l.length c) l := hb.drewN _
  have hc0 : (w.drewN (1 + n + 1)).cell? ⟨x.q, 7, none⟩ = some (.map (some x.m)) := hb0 7
  have hcv : ∀ w' : World, By w' kv k → (convert 39 9 kv).run Tryz.prog w' = .ok (sV k) w' := fun w' h' => h'.conv Tryz.underlying39 Tryz.underlying5 Tryz.underlying9
  have HCV := Lib.hid hcv
  clear hcv
  refine wp_region_mix [.w, .w, .w, .l, .w, .l, .w, .w, .k, .t] (by kernel_rfl) (by kernel_rfl) (fun w' => w'.cell? ⟨x.q, 7, none⟩ = some (.map (some x.m)) ∧ By w' kv k) ?_
  repeat (refine mix_w1 ?_; go_big_quiet_step (fail); refine wpQuiet_nil ?_)
  refine mix_load1 ⟨hc0, hxk⟩ rfl 58 (.tmp 53) rfl naMap ⟨x.q, 7, none⟩ _ rfl (fun _ h => h.1) ?_
  simp only [Act.put, List.setIfInBounds_toArray, List.set_cons_succ, List.set_cons_zero]
  repeat (refine mix_w1 ?_; go_big_quiet_step (fail); refine wpQuiet_nil ?_)
  refine mix_conv1 ⟨hc0, hxk⟩ rfl 39 9 (.tmp 55) rfl kv (sV k) rfl (fun w' h => HCV.out w' h.2) ?_
  simp only [Act.put, List.setIfInBounds_toArray, List.set_cons_succ, List.set_cons_zero]
  repeat (refine mix_w1 ?_; go_big_quiet_step (fail); refine wpQuiet_nil ?_)
  refine mix_k ⟨hc0, hxk⟩ fun Q' hQ' => ?_
  go_wp2_with fail
  refine (fresh_any x S L _ l _ hx hxb hl6 hh hpos hs).mono ?_
  rintro e w4 ⟨rfl, v4, g4, cv4, h4, hB4, hk4⟩
  have hc4 : w4.cell? ⟨x.q, 7, none⟩ = some (.map (some x.m)) := (hk4.cell (p := ⟨x.q, 7, none⟩) hx.blk.lt hx.dq).trans hc0
  have hk4' : By w4 kv k := hxk.kept hk4 (fun g hg => hkx g hg)
  go_wp2_with fail
  refine hQ' _ _ ⟨hc4, hk4'⟩ ?_
  clear hQ' Q'
  refine mix_t fun Q' hQ' => ?_
  refine wpList_updS rfl (.tmp 54) (.tmp 56) (.tmp 59) 58 rfl Tryz.underlying58 Tryz.underlying9 h4.map k (.int .i64 ((L.length : Int) + 1)) rfl rfl rfl ?_
  intro w5 hm5 hk5
  have hnew : S.vals ++ [(k, Value.int .i64 ((L.length : Int) + 1))] = (S.ent ++ [(k, (L.length : Int) + 1)]).map fun y => (y.1, Value.int .i64 y.2) := by simp [MS.vals]
  have hlv : lookS S.vals k = none := by rw [look_vals, HL0.out]; rfl
  rw [updS_new hlv, hnew] at hm5
  have h5 : Mp w5 { x with v := v4 } { S with ent := S.ent ++ [(k, (L.length : Int) + 1)] } (L ++ [⟨g4, cv4, List.replicate (hidN S.d.timer) 0 ++ l.drop (hidN S.d.timer), true, (hidN S.d.timer : Nat), false⟩]) := by
    have hqm := h4.qm
    refine ⟨hk5.blk (fun e => hqm e.symm) h4.blk, hm5, h4.prog.kept hk5 (fun g hg e => (h4.dp g hg).2.2 e), h4.mem.kept hk5 (fun n hn e => h4.dm (by rw [← e]; exact hn)), h4.dq, h4.dm, h4.dp, fun y hy => ?_, by show (S.ent ++ _).length ≤ _; simp; omega⟩
    rcases List.mem_append.1 hy with hy | hy
    · exact h4.ids y hy
    · rw [List.mem_singleton.1 hy]
      refine ⟨L.length, _, rfl, by rw [List.getElem?_append_right (Nat.le_refl _), Nat.sub_self]; rfl, ?_⟩
      have := HLV.out
      show (((List.replicate (hidN S.d.timer) (0 : UInt8) ++ l.drop (hidN S.d.timer)).length : Nat) : Int) = S.d.value
      simp
      omega
  have hkf : Kept (fun n => n = x.m ∨ n ∈ blM x.mp x.v L) w w5 := Kept.trans (((Kept.refl _ w).drewN _).trans (hk4.mono (fun n _ e => .inr e)) (fun _ _ h => h)) hk5 (fun n _ e => .inl e)
  have hBf : ∀ n, fpMp { x with v := v4 } (L ++ [⟨g4, cv4, List.replicate (hidN S.d.timer) 0 ++ l.drop (hidN S.d.timer), true, (hidN S.d.timer : Nat), false⟩]) n → fpMp x L n ∨ w.heap.size ≤ n := hB4
  have HB := Lib.hid hBf
  clear hB4 hBf hb0 hc0 hc4 hlv hnew hm5
  refine hQ' _ _ ?_
  refine mix_nil ?_
  simp only [Act.put]
  go_wp2_with fail
  go_ret
  exact ⟨rfl, v4, g4, cv4, h5, HB.out, hkf⟩

end Go.Proofs.YtahabogjfcdjkaaGreat
