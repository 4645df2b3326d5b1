import Derived.Test.YtlkgmcacbfoijaaGreatGix
import Derived.Test.YtlkgmcacbfoijaaGreatTree
import Derived.Laws.CopyRow
set_option linter.unusedSimpArgs false
set_option linter.unusedVariables false
namespace Go.Proofs.YtlkgmcacbfoijaaGreat
open Go.RowKit

/-! ### the document's table is made -/
section
variable {P : Program} {w : World} {ops : Array Oper} {rest : List Oper} {o : Oper} {a : Act} {Q : Exit → Act → World → Prop}
/-- a whole block is written -/
theorem wpList_storeBlk (hgd : o.guard = none) (x v : Operand) (t : TypeId) (hop : o.op = .store t x v) {i0 : TypeInfo} (hi : P.info? t = some i0) (g : Nat) (T : TypeId) (old vs : Array Value)
    (hx : a.eval x = .pointer (some ⟨g, 0, none⟩)) (hv : a.eval v = .agg vs) (hsz : i0.size = vs.size) (hold : old.size = vs.size) (h1 : ∀ y ∈ vs.toList, y.oneCell' = true) (hb : Blk w g T old)
    (hK : ∀ w', Blk w' g T vs → Kept (fun k => k = g) w w' → wpList P ops Q rest (a.put o.dst undef) w') : wpList P ops Q (o :: rest) a w := by
  refine wpList_plain hgd fun K hKK => ?_
  have hst := run_storeCells_at P g 0 T vs.toList 0 old w hb (by rw [Array.length_toList]; omega) h1
  have enew : (old.toList.take (0 + 0) ++ (vs.toList ++ old.toList.drop (0 + 0 + vs.toList.length))).toArray = vs := by
    have : old.toList.drop (0 + 0 + vs.toList.length) = [] := List.drop_eq_nil_of_le (by rw [Array.length_toList, Array.length_toList]; omega)
    rw [this]
    simp
  rw [List.append_assoc, enew] at hst
  have hcv : (a.eval v).cells = vs := by rw [hv]; rfl
  unfold Oper.wp
  simp [execOp, hop, hx, hcv, Instr.storeAt, Instr.sureAddr, storeVar, sizeOf, typeInfo, hi, hst, Result.andThen, hsz]
  exact hKK _ _ (hK _ (setRow_heap w g old vs T (0, 0) hb) ⟨rfl, rfl, rfl, by simp, fun k _ hk => setRow_other w g k _ hk⟩)
end
section
variable {P : Program} {l : List Oper} {C : World → Prop} {ks : List Kd} {K : Act → World → Prop} {R : List Bool} {a : Act} {w : World}
theorem tree_fork3 (m r m' r' m2 r2 : List Bool) (hf : forks ks l R = [(idx m 0, idx r 0), (idx m' 0, idx r' 0), (idx m2 0, idx r2 0)]) (h : Mix P l.toArray C (fun a w => Tree P l C ks K r a w) (keep m ks) (keep m l) a w)
    (h' : Mix P l.toArray C (fun a w => Tree P l C ks K r' a w) (keep m' ks) (keep m' l) a w) (h2 : Mix P l.toArray C (fun a w => Tree P l C ks K r2 a w) (keep m2 ks) (keep m2 l) a w) : Tree P l C ks K R a w :=
  tree_forks [(m, r), (m', r'), (m2, r2)] hf (by simp) (fun s hs => by
    rcases List.mem_cons.1 hs with rfl | hs
    · exact h
    · rcases List.mem_cons.1 hs with rfl | hs
      · exact h'
      · obtain rfl := List.mem_singleton.1 hs; exact h2)
theorem tree_fork4 (m r m' r' m2 r2 m3 r3 : List Bool) (hf : forks ks l R = [(idx m 0, idx r 0), (idx m' 0, idx r' 0), (idx m2 0, idx r2 0), (idx m3 0, idx r3 0)]) (h : Mix P l.toArray C (fun a w => Tree P l C ks K r a w) (keep m ks) (keep m l) a w)
    (h' : Mix P l.toArray C (fun a w => Tree P l C ks K r' a w) (keep m' ks) (keep m' l) a w) (h2 : Mix P l.toArray C (fun a w => Tree P l C ks K r2 a w) (keep m2 ks) (keep m2 l) a w)
    (h3 : Mix P l.toArray C (fun a w => Tree P l C ks K r3 a w) (keep m3 ks) (keep m3 l) a w) : Tree P l C ks K R a w :=
  tree_forks [(m, r), (m', r'), (m2, r2), (m3, r3)] hf (by simp) (fun s hs => by
    rcases List.mem_cons.1 hs with rfl | hs
    · exact h
    · rcases List.mem_cons.1 hs with rfl | hs
      · exact h'
      · rcases List.mem_cons.1 hs with rfl | hs
        · exact h2
        · obtain rfl := List.mem_singleton.1 hs; exact h3)
end
/-- slices of zeros and tables that were made -/
structure MkS (n : Nat) (w0 w : World) (sl bs : List Nat) : Prop where
  k : Kept (fun _ => False) w0 w
  s : ∀ g ∈ sl, Us w (.slice (some ⟨g, 0, none⟩) n n) (List.replicate n 0)
  b : ∀ g ∈ bs, Blk w g 60 #[.slice none 0 0, .slice none 0 0, .slice none 0 0]
  hi : ∀ g, g ∈ sl ∨ g ∈ bs → w0.heap.size ≤ g ∧ g < w.heap.size
  nd : (sl ++ bs).Nodup
theorem MkS.start {n : Nat} (w : World) : MkS n w w.drew [] [] :=
  ⟨(Kept.refl _ w).drew, fun g h => (by cases h), fun g h => (by cases h), fun g h => (by rcases h with h | h <;> cases h), List.nodup_nil⟩
theorem MkS.make {n : Nat} {w0 w w' : World} {sl bs : List Nat} (h : MkS n w0 w sl bs) (hs : Sl w' 24 1 (.slice (some ⟨w.heap.size, 0, none⟩) n n) (List.replicate n [u64 0])) (hk : Kept (fun _ => False) w w') : MkS n w0 w' (w.heap.size :: sl) bs where
  k := h.k.trans hk (fun _ _ h => h)
  s := fun g hg => by
    rcases List.mem_cons.1 hg with rfl | hg
    · unfold Us
      rw [List.map_replicate]
      exact hs
    · exact Sl.kept hk (h.s g hg) (fun _ _ h => h)
  b := fun g hg => hk.blk id (h.b g hg)
  hi := fun g hg => by
    have h1 := h.k.size
    have h2 := Sl.lt hs _ rfl
    have h3 := hk.size
    rcases hg with hg | hg
    · rcases List.mem_cons.1 hg with rfl | hg
      · exact ⟨h1, h2⟩
      · have := h.hi g (.inl hg); omega
    · have := h.hi g (.inr hg); omega
  nd := by
    rw [List.cons_append, List.nodup_cons]
    refine ⟨fun hm => ?_, h.nd⟩
    have := h.hi _ (List.mem_append.1 hm)
    omega
theorem MkS.new {n : Nat} {w0 w : World} {sl bs : List Nat} (h : MkS n w0 w sl bs) : MkS n w0 (w.alloc (.cells #[.slice none 0 0, .slice none 0 0, .slice none 0 0] 60)) sl (w.heap.size :: bs) where
  k := h.k.alloc _
  s := fun g hg => Sl.kept ((Kept.refl (fun _ => False) w).alloc _) (h.s g hg) (fun _ _ h => h)
  b := fun g hg => by
    rcases List.mem_cons.1 hg with rfl | hg
    · exact Blk.new w _ _
    · exact (h.b g hg).alloc _
  hi := fun g hg => by
    have h1 := h.k.size
    have h2 : (w.alloc (.cells #[.slice none 0 0, .slice none 0 0, .slice none 0 0] 60)).heap.size = w.heap.size + 1 := by simp
    rcases hg with hg | hg
    · have := h.hi g (.inl hg); omega
    · rcases List.mem_cons.1 hg with rfl | hg
      · omega
      · have := h.hi g (.inr hg); omega
  nd := by
    have h1 := h.nd
    rw [List.nodup_append] at h1 ⊢
    refine ⟨h1.1, List.nodup_cons.2 ⟨fun hm => ?_, h1.2.1⟩, fun x hx y hy e => ?_⟩
    · have := h.hi _ (.inr hm); omega
    · rcases List.mem_cons.1 hy with rfl | hy
      · have := h.hi _ (.inl hx); omega
      · exact h1.2.2 x hx y hy e
structure Mk4 (n : Nat) (w0 w : World) (gL gS gW gb : Nat) : Prop where
  t : TM n gL gS gW w (List.replicate n 0) (List.replicate n 0) (List.replicate n 0)
  b : Blk w gb 60 #[.slice (some ⟨gL, 0, none⟩) n n, .slice (some ⟨gS, 0, none⟩) n n, .slice (some ⟨gW, 0, none⟩) n n]
  k : Kept (fun _ => False) w0 w
  hi : w0.heap.size ≤ gL ∧ w0.heap.size ≤ gS ∧ w0.heap.size ≤ gW ∧ w0.heap.size ≤ gb
  ne : gb ≠ gL ∧ gb ≠ gS ∧ gb ≠ gW
theorem MkS.fin {n : Nat} {w0 w wF : World} {sl bs : List Nat} {gL gS gW gb : Nat} (h : MkS n w0 w sl bs) (h1 : gL ∈ sl) (h2 : gS ∈ sl) (h3 : gW ∈ sl) (hb : gb ∈ bs) (hne : gL ≠ gS ∧ gL ≠ gW ∧ gS ≠ gW ∧ gb ≠ gL ∧ gb ≠ gS ∧ gb ≠ gW)
    (hB : Blk wF gb 60 #[.slice (some ⟨gL, 0, none⟩) n n, .slice (some ⟨gS, 0, none⟩) n n, .slice (some ⟨gW, 0, none⟩) n n]) (hk : Kept (fun k => k = gb) w wF) : Mk4 n w0 wF gL gS gW gb where
  t := ⟨Sl.kept hk (h.s gL h1) (fun g hg e => by have h4 : gL = g := Option.some.inj hg; omega), Sl.kept hk (h.s gS h2) (fun g hg e => by have h4 : gS = g := Option.some.inj hg; omega), Sl.kept hk (h.s gW h3) (fun g hg e => by have h4 : gW = g := Option.some.inj hg; omega), ⟨hne.1, hne.2.1, hne.2.2.1⟩, by simp, by simp, by simp⟩
  b := hB
  k := h.k.trans hk (fun x hx e => by have := h.hi gb (.inr hb); have e : x = gb := e; omega)
  hi := ⟨(h.hi gL (.inl h1)).1, (h.hi gS (.inl h2)).1, (h.hi gW (.inl h3)).1, (h.hi gb (.inr hb)).1⟩
  ne := hne.2.2.2
theorem infoT : (Tryz.prog.info? 60).map (·.size) = some 3 := by kernel_rfl
theorem results_cellT {P : Program} {fn : Func} {p : Tmp} {ty : TypeId} (h : fn.results = #[.cell p ty]) (tmps : Array Value) (w : World) (g : Nat) (t : TypeId) (cs : Array Value) (fr : Nat × Nat) (d : TypeDesc)
    (hp : tmps.getD p undef = .pointer (some ⟨g, 0, none⟩)) (hg : w.heap[g]? = some (.cells cs t fr))
    (hu : P.underlying ty = some d) (hd : (match d with | .struct _ | .array _ _ => true | _ => false) = true) (hi : (P.info? ty).map (·.size) = some cs.size) :
    (results fn tmps).run P w = .ok (.agg cs) w := by
  have hp' : tmps[p]?.getD undef = .pointer (some ⟨g, 0, none⟩) := by simpa using hp
  simp [results, h, hp', asAddr, run_loadVar_row w g t ty cs fr d hg hu hd hi]
set_option maxHeartbeats 16000000 in
set_option maxRecDepth 100000 in
theorem tof_any (l : List In) (a : Option Addr) (c : Nat) (w : World) (h : Ins w (.slice a l.length c) l) (hok : InsOk l) (hz : checkI l = 0) {lam V1 V2 V3 rk1 rk2 rk3 : Nat → Nat} (hl : Lay l lam) (hT1 : Tells longR l V1 rk1) (hT2 : Tells shortR l V2 rk2) (hT3 : Tells waysR l V3 rk3) :
    Calls Tryz.prog 22 #[.slice a l.length c] w fun e w' => ∃ (gL gS gW : Nat) (TL TS TW : List Nat), e = .returned (.agg #[.slice (some ⟨gL, 0, none⟩) l.length l.length, .slice (some ⟨gS, 0, none⟩) l.length l.length, .slice (some ⟨gW, 0, none⟩) l.length l.length]) ∧
      TM l.length gL gS gW w' TL TS TW ∧ (∀ i, Rch l i → TL.getD i 0 = V1 i ∧ TS.getD i 0 = V2 i ∧ TW.getD i 0 = V3 i) ∧ Kept (fun _ => False) w w' := by
  have hlen := hok.len
  have hsub0 : subsC l = 0 := by
    have hzz := (check_parts hz).1
    unfold subsC
    rw [if_pos hzz]
    have hz2 := hz
    unfold checkI at hz2
    rw [if_pos hzz] at hz2
    by_cases he : endedC l (partsL l) = 0
    · exact he
    · rw [if_neg he] at hz2; exact absurd hz2 he
  have hpn : (partsL l).length ≤ 64 := (check_parts hz).2.1
  have HSU := Lib.hid (fun W hI => subs_any l a c W hI hok)
  rw [hsub0] at HSU
  have HRO := Lib.hid (fun W hI => rof_any l a c W hI hok hz)
  have HON := Lib.hid (fun i x TL TS TW gL gS gW W hI hr hx hM t1 t2 t3 => rone_any l a c i x TL TS TW gL gS gW W hI hok hz hr hx hM t1 t2 t3)
  have HIN := Lib.hid (fun (W : World) (hk : Kept (fun _ => False) w W) => h.kept hk)
  have HST := Lib.hid (fun V => Gd.start (V := V) hl hz)
  have HNX := Lib.hid (fun V r T (hg : Gd l V lam r 0 T) => hg.next hz)
  have HS1 := Lib.hid (fun r p T x (hg : Gd l V1 lam r (p + 1) T) hr hx => hg.step (x := x) fair_long hT1 hl hr hx)
  have HS2 := Lib.hid (fun r p T x (hg : Gd l V2 lam r (p + 1) T) hr hx => hg.step (x := x) fair_short hT2 hl hr hx)
  have HS3 := Lib.hid (fun r p T x (hg : Gd l V3 lam r (p + 1) T) hr hx => hg.step (x := x) fair_ways hT3 hl hr hx)
  have HAL := Lib.hid (fun V p T (hg : Gd l V lam (partsL l).length p T) => hg.all hl)
  have hlt := @Sl.lt
  obtain ⟨i0, hU0, hU1, hU2, hU3⟩ := info_parts infoU64
  obtain ⟨j0, hT0, hT1'⟩ := Option.map_eq_some_iff.1 infoT
  have hT1 := hT1'
  clear hT1' hz hl hT2 hT3 hok hsub0 hlt
  have hbA := Blk.new w 60 #[.slice none 0 0, .slice none 0 0, .slice none 0 0]
  have hkA := (Kept.refl (fun _ => False) w).alloc (.cells #[.slice none 0 0, .slice none 0 0, .slice none 0 0] 60)
  have hszA : (w.alloc (.cells #[.slice none 0 0, .slice none 0 0, .slice none 0 0] 60)).heap.size = w.heap.size + 1 := by simp
  have HA := Lib.hid (And.intro hbA (And.intro hkA hszA))
  clear hbA hkA hszA h
  go_enter Tryz.func22, Tryz.ntmps22
  go_wp2_with fail
  rename_i Q' K HK
  generalize w.alloc (.cells #[.slice none 0 0, .slice none 0 0, .slice none 0 0] 60) = wA at *
  generalize hr0 : w.heap.size = r0 at *
  refine Code.wp_mono (Q := fun e a' w' => e = .normal ∧ ∃ gL gS gW gb, Mk4 l.length wA w' gL gS gW gb ∧ a' = { tmps := #[.slice a l.length c, undef, .pointer (some ⟨r0, 0, none⟩), .pointer (some ⟨gb, 0, none⟩), undef, undef, undef, undef, undef, undef, .slice a l.length c, .int .i64 l.length, .slice (some ⟨gL, 0, none⟩) l.length l.length, .slice a l.length c, .int .i64 l.length, .slice (some ⟨gS, 0, none⟩) l.length l.length, .slice a l.length c, .int .i64 l.length, .slice (some ⟨gW, 0, none⟩) l.length l.length, .agg #[.slice (some ⟨gL, 0, none⟩) l.length l.length, .slice (some ⟨gS, 0, none⟩) l.length l.length, .slice (some ⟨gW, 0, none⟩) l.length l.length], undef, undef, undef, undef, undef, undef, undef, undef, undef, undef, undef, undef, undef, undef, undef, undef, undef, undef, undef, undef, undef, undef, undef, undef, undef, undef, undef, undef, undef, undef], defers := [] }) ?_ ?_
  rotate_left
  · clear HSU HRO HON HIN HST HNX HS1 HS2 HS3 HAL HK HA
    refine wp_region_tree [.w, .w, .t, .w, .w, .t, .w, .w, .t, .w, .t, .t] (fun _ => True) [true, true, true, true, true, true, true, true, true, true, true, true] (by kernel_rfl) (by kernel_rfl) (by kernel_rfl) ?_
    have hm0 : MkS l.length wA wA.drew [] [] := MkS.start wA
    generalize wA.drew = w0a at *
    refine tree_fork4 [true, true, true, false, false, false, false, false, false, false, false, false] [false, false, false, true, true, true, true, true, true, true, true, true] [false, false, false, true, true, true, false, false, false, false, false, false] [true, true, true, false, false, false, true, true, true, true, true, true] [false, false, false, false, false, false, true, true, true, false, false, false] [true, true, true, true, true, true, false, false, false, true, true, true] [false, false, false, false, false, false, false, false, false, false, true, false] [true, true, true, true, true, true, true, true, true, true, false, true] (by kernel_rfl) ?_ ?_ ?_ ?_
    · simp only [keep]
      refine mix_w1 ?_; go_big_quiet_step (fail); refine wpQuiet_nil ?_
      refine mix_w1 ?_; go_big_quiet_step (fail); refine wpQuiet_nil ?_
      refine mix_t fun Q' hQ' => ?_
      go_wp2_with (at_make; refine wpList_makeSl (w := w0a) rfl (.tmp 11) (.tmp 11) 58 rfl (u64 0) rfl Tryz.underlying58 hU0 hU1 hU2 hU3 (by omega) l.length rfl rfl (by omega) ?_; intro w1a hs1 hk1)
      have hm1 := MkS.make hm0 hs1 hk1
      clear hs1 hk1
      refine mix_done ?_
      try simp only [Act.put, List.setIfInBounds_toArray, List.set_cons_succ, List.set_cons_zero]
      refine tree_fork3 [false, false, false, true, true, true, false, false, false, false, false, false] [false, false, false, false, false, false, true, true, true, true, true, true] [false, false, false, false, false, false, true, true, true, false, false, false] [false, false, false, true, true, true, false, false, false, true, true, true] [false, false, false, false, false, false, false, false, false, false, true, false] [false, false, false, true, true, true, true, true, true, true, false, true] (by kernel_rfl) ?_ ?_ ?_
      · simp only [keep]
        refine mix_w1 ?_; go_big_quiet_step (fail); refine wpQuiet_nil ?_
        refine mix_w1 ?_; go_big_quiet_step (fail); refine wpQuiet_nil ?_
        refine mix_t fun Q' hQ' => ?_
        go_wp2_with (at_make; refine wpList_makeSl (w := w1a) rfl (.tmp 14) (.tmp 14) 58 rfl (u64 0) rfl Tryz.underlying58 hU0 hU1 hU2 hU3 (by omega) l.length rfl rfl (by omega) ?_; intro w2a hs2 hk2)
        have hm2 := MkS.make hm1 hs2 hk2
        clear hs2 hk2
        refine mix_done ?_
        try simp only [Act.put, List.setIfInBounds_toArray, List.set_cons_succ, List.set_cons_zero]
        refine tree_fork2 [false, false, false, false, false, false, true, true, true, false, false, false] [false, false, false, false, false, false, false, false, false, true, true, true] [false, false, false, false, false, false, false, false, false, false, true, false] [false, false, false, false, false, false, true, true, true, true, false, true] (by kernel_rfl) ?_ ?_
        · simp only [keep]
          refine mix_w1 ?_; go_big_quiet_step (fail); refine wpQuiet_nil ?_
          refine mix_w1 ?_; go_big_quiet_step (fail); refine wpQuiet_nil ?_
          refine mix_t fun Q' hQ' => ?_
          go_wp2_with (at_make; refine wpList_makeSl (w := w2a) rfl (.tmp 17) (.tmp 17) 58 rfl (u64 0) rfl Tryz.underlying58 hU0 hU1 hU2 hU3 (by omega) l.length rfl rfl (by omega) ?_; intro w3a hs3 hk3)
          have hm3 := MkS.make hm2 hs3 hk3
          clear hs3 hk3
          refine mix_done ?_
          try simp only [Act.put, List.setIfInBounds_toArray, List.set_cons_succ, List.set_cons_zero]
          refine tree_fork1 [false, false, false, false, false, false, false, false, false, false, true, false] [false, false, false, false, false, false, false, false, false, true, false, true] (by kernel_rfl) ?_
          simp only [keep]
          refine mix_t fun Q' hQ' => ?_
          go_wp2_with fail
          have hm4 := MkS.new hm3
          generalize w3a.alloc (.cells #[.slice none 0 0, .slice none 0 0, .slice none 0 0] 60) = w4a at *
          refine mix_done ?_
          try simp only [Act.put, List.setIfInBounds_toArray, List.set_cons_succ, List.set_cons_zero]
          refine tree_fork1 [false, false, false, false, false, false, false, false, false, true, false, true] [false, false, false, false, false, false, false, false, false, false, false, false] (by kernel_rfl) ?_
          simp only [keep]
          refine mix_w1 ?_; go_big_quiet_step (fail); refine wpQuiet_nil ?_
          refine mix_t fun Q' hQ' => ?_
          refine wpList_storeBlk rfl _ _ 60 rfl hT0 w3a.heap.size 60 #[.slice none 0 0, .slice none 0 0, .slice none 0 0] #[.slice (some ⟨w0a.heap.size, 0, none⟩) l.length l.length, .slice (some ⟨w1a.heap.size, 0, none⟩) l.length l.length, .slice (some ⟨w2a.heap.size, 0, none⟩) l.length l.length] rfl rfl (by rw [hT1]; rfl) rfl (by intro y hy; simp at hy; rcases hy with rfl | rfl | rfl <;> rfl) (hm4.b w3a.heap.size (by simp)) ?_
          intro wF hbF hkF
          go_wp2_with fail
          refine mix_done ?_
          try simp only [Act.put, List.setIfInBounds_toArray, List.set_cons_succ, List.set_cons_zero]
          refine tree_last (by kernel_rfl) ?_
          simp only [keep]
          refine mix_done ?_
          exact ⟨_, _, _, _, MkS.fin hm4 (by simp) (by simp) (by simp) (by simp) (by have hnd := hm4.nd; simp at hnd; omega) hbF hkF, rfl⟩
        · simp only [keep]
          refine mix_t fun Q' hQ' => ?_
          go_wp2_with fail
          have hm6 := MkS.new hm2
          generalize w2a.alloc (.cells #[.slice none 0 0, .slice none 0 0, .slice none 0 0] 60) = w6a at *
          refine mix_done ?_
          try simp only [Act.put, List.setIfInBounds_toArray, List.set_cons_succ, List.set_cons_zero]
          refine tree_fork1 [false, false, false, false, false, false, true, true, true, false, false, false] [false, false, false, false, false, false, false, false, false, true, false, true] (by kernel_rfl) ?_
          simp only [keep]
          refine mix_w1 ?_; go_big_quiet_step (fail); refine wpQuiet_nil ?_
          refine mix_w1 ?_; go_big_quiet_step (fail); refine wpQuiet_nil ?_
          refine mix_t fun Q' hQ' => ?_
          go_wp2_with (at_make; refine wpList_makeSl (w := w6a) rfl (.tmp 17) (.tmp 17) 58 rfl (u64 0) rfl Tryz.underlying58 hU0 hU1 hU2 hU3 (by omega) l.length rfl rfl (by omega) ?_; intro w7a hs7 hk7)
          have hm7 := MkS.make hm6 hs7 hk7
          clear hs7 hk7
          refine mix_done ?_
          try simp only [Act.put, List.setIfInBounds_toArray, List.set_cons_succ, List.set_cons_zero]
          refine tree_fork1 [false, false, false, false, false, false, false, false, false, true, false, true] [false, false, false, false, false, false, false, false, false, false, false, false] (by kernel_rfl) ?_
          simp only [keep]
          refine mix_w1 ?_; go_big_quiet_step (fail); refine wpQuiet_nil ?_
          refine mix_t fun Q' hQ' => ?_
          refine wpList_storeBlk rfl _ _ 60 rfl hT0 w2a.heap.size 60 #[.slice none 0 0, .slice none 0 0, .slice none 0 0] #[.slice (some ⟨w0a.heap.size, 0, none⟩) l.length l.length, .slice (some ⟨w1a.heap.size, 0, none⟩) l.length l.length, .slice (some ⟨w6a.heap.size, 0, none⟩) l.length l.length] rfl rfl (by rw [hT1]; rfl) rfl (by intro y hy; simp at hy; rcases hy with rfl | rfl | rfl <;> rfl) (hm7.b w2a.heap.size (by simp)) ?_
          intro wF hbF hkF
          go_wp2_with fail
          refine mix_done ?_
          try simp only [Act.put, List.setIfInBounds_toArray, List.set_cons_succ, List.set_cons_zero]
          refine tree_last (by kernel_rfl) ?_
          simp only [keep]
          refine mix_done ?_
          exact ⟨_, _, _, _, MkS.fin hm7 (by simp) (by simp) (by simp) (by simp) (by have hnd := hm7.nd; simp at hnd; omega) hbF hkF, rfl⟩
      · simp only [keep]
        refine mix_w1 ?_; go_big_quiet_step (fail); refine wpQuiet_nil ?_
        refine mix_w1 ?_; go_big_quiet_step (fail); refine wpQuiet_nil ?_
        refine mix_t fun Q' hQ' => ?_
        go_wp2_with (at_make; refine wpList_makeSl (w := w1a) rfl (.tmp 17) (.tmp 17) 58 rfl (u64 0) rfl Tryz.underlying58 hU0 hU1 hU2 hU3 (by omega) l.length rfl rfl (by omega) ?_; intro w9a hs9 hk9)
        have hm9 := MkS.make hm1 hs9 hk9
        clear hs9 hk9
        refine mix_done ?_
        try simp only [Act.put, List.setIfInBounds_toArray, List.set_cons_succ, List.set_cons_zero]
        refine tree_fork2 [false, false, false, true, true, true, false, false, false, false, false, false] [false, false, false, false, false, false, false, false, false, true, true, true] [false, false, false, false, false, false, false, false, false, false, true, false] [false, false, false, true, true, true, false, false, false, true, false, true] (by kernel_rfl) ?_ ?_
        · simp only [keep]
          refine mix_w1 ?_; go_big_quiet_step (fail); refine wpQuiet_nil ?_
          refine mix_w1 ?_; go_big_quiet_step (fail); refine wpQuiet_nil ?_
          refine mix_t fun Q' hQ' => ?_
          go_wp2_with (at_make; refine wpList_makeSl (w := w9a) rfl (.tmp 14) (.tmp 14) 58 rfl (u64 0) rfl Tryz.underlying58 hU0 hU1 hU2 hU3 (by omega) l.length rfl rfl (by omega) ?_; intro w10a hs10 hk10)
          have hm10 := MkS.make hm9 hs10 hk10
          clear hs10 hk10
          refine mix_done ?_
          try simp only [Act.put, List.setIfInBounds_toArray, List.set_cons_succ, List.set_cons_zero]
          refine tree_fork1 [false, false, false, false, false, false, false, false, false, false, true, false] [false, false, false, false, false, false, false, false, false, true, false, true] (by kernel_rfl) ?_
          simp only [keep]
          refine mix_t fun Q' hQ' => ?_
          go_wp2_with fail
          have hm11 := MkS.new hm10
          generalize w10a.alloc (.cells #[.slice none 0 0, .slice none 0 0, .slice none 0 0] 60) = w11a at *
          refine mix_done ?_
          try simp only [Act.put, List.setIfInBounds_toArray, List.set_cons_succ, List.set_cons_zero]
          refine tree_fork1 [false, false, false, false, false, false, false, false, false, true, false, true] [false, false, false, false, false, false, false, false, false, false, false, false] (by kernel_rfl) ?_
          simp only [keep]
          refine mix_w1 ?_; go_big_quiet_step (fail); refine wpQuiet_nil ?_
          refine mix_t fun Q' hQ' => ?_
          refine wpList_storeBlk rfl _ _ 60 rfl hT0 w10a.heap.size 60 #[.slice none 0 0, .slice none 0 0, .slice none 0 0] #[.slice (some ⟨w0a.heap.size, 0, none⟩) l.length l.length, .slice (some ⟨w9a.heap.size, 0, none⟩) l.length l.length, .slice (some ⟨w1a.heap.size, 0, none⟩) l.length l.length] rfl rfl (by rw [hT1]; rfl) rfl (by intro y hy; simp at hy; rcases hy with rfl | rfl | rfl <;> rfl) (hm11.b w10a.heap.size (by simp)) ?_
          intro wF hbF hkF
          go_wp2_with fail
          refine mix_done ?_
          try simp only [Act.put, List.setIfInBounds_toArray, List.set_cons_succ, List.set_cons_zero]
          refine tree_last (by kernel_rfl) ?_
          simp only [keep]
          refine mix_done ?_
          exact ⟨_, _, _, _, MkS.fin hm11 (by simp) (by simp) (by simp) (by simp) (by have hnd := hm11.nd; simp at hnd; omega) hbF hkF, rfl⟩
        · simp only [keep]
          refine mix_t fun Q' hQ' => ?_
          go_wp2_with fail
          have hm13 := MkS.new hm9
          generalize w9a.alloc (.cells #[.slice none 0 0, .slice none 0 0, .slice none 0 0] 60) = w13a at *
          refine mix_done ?_
          try simp only [Act.put, List.setIfInBounds_toArray, List.set_cons_succ, List.set_cons_zero]
          refine tree_fork1 [false, false, false, true, true, true, false, false, false, false, false, false] [false, false, false, false, false, false, false, false, false, true, false, true] (by kernel_rfl) ?_
          simp only [keep]
          refine mix_w1 ?_; go_big_quiet_step (fail); refine wpQuiet_nil ?_
          refine mix_w1 ?_; go_big_quiet_step (fail); refine wpQuiet_nil ?_
          refine mix_t fun Q' hQ' => ?_
          go_wp2_with (at_make; refine wpList_makeSl (w := w13a) rfl (.tmp 14) (.tmp 14) 58 rfl (u64 0) rfl Tryz.underlying58 hU0 hU1 hU2 hU3 (by omega) l.length rfl rfl (by omega) ?_; intro w14a hs14 hk14)
          have hm14 := MkS.make hm13 hs14 hk14
          clear hs14 hk14
          refine mix_done ?_
          try simp only [Act.put, List.setIfInBounds_toArray, List.set_cons_succ, List.set_cons_zero]
          refine tree_fork1 [false, false, false, false, false, false, false, false, false, true, false, true] [false, false, false, false, false, false, false, false, false, false, false, false] (by kernel_rfl) ?_
          simp only [keep]
          refine mix_w1 ?_; go_big_quiet_step (fail); refine wpQuiet_nil ?_
          refine mix_t fun Q' hQ' => ?_
          refine wpList_storeBlk rfl _ _ 60 rfl hT0 w9a.heap.size 60 #[.slice none 0 0, .slice none 0 0, .slice none 0 0] #[.slice (some ⟨w0a.heap.size, 0, none⟩) l.length l.length, .slice (some ⟨w13a.heap.size, 0, none⟩) l.length l.length, .slice (some ⟨w1a.heap.size, 0, none⟩) l.length l.length] rfl rfl (by rw [hT1]; rfl) rfl (by intro y hy; simp at hy; rcases hy with rfl | rfl | rfl <;> rfl) (hm14.b w9a.heap.size (by simp)) ?_
          intro wF hbF hkF
          go_wp2_with fail
          refine mix_done ?_
          try simp only [Act.put, List.setIfInBounds_toArray, List.set_cons_succ, List.set_cons_zero]
          refine tree_last (by kernel_rfl) ?_
          simp only [keep]
          refine mix_done ?_
          exact ⟨_, _, _, _, MkS.fin hm14 (by simp) (by simp) (by simp) (by simp) (by have hnd := hm14.nd; simp at hnd; omega) hbF hkF, rfl⟩
      · simp only [keep]
        refine mix_t fun Q' hQ' => ?_
        go_wp2_with fail
        have hm16 := MkS.new hm1
        generalize w1a.alloc (.cells #[.slice none 0 0, .slice none 0 0, .slice none 0 0] 60) = w16a at *
        refine mix_done ?_
        try simp only [Act.put, List.setIfInBounds_toArray, List.set_cons_succ, List.set_cons_zero]
        refine tree_fork2 [false, false, false, true, true, true, false, false, false, false, false, false] [false, false, false, false, false, false, true, true, true, true, false, true] [false, false, false, false, false, false, true, true, true, false, false, false] [false, false, false, true, true, true, false, false, false, true, false, true] (by kernel_rfl) ?_ ?_
        · simp only [keep]
          refine mix_w1 ?_; go_big_quiet_step (fail); refine wpQuiet_nil ?_
          refine mix_w1 ?_; go_big_quiet_step (fail); refine wpQuiet_nil ?_
          refine mix_t fun Q' hQ' => ?_
          go_wp2_with (at_make; refine wpList_makeSl (w := w16a) rfl (.tmp 14) (.tmp 14) 58 rfl (u64 0) rfl Tryz.underlying58 hU0 hU1 hU2 hU3 (by omega) l.length rfl rfl (by omega) ?_; intro w17a hs17 hk17)
          have hm17 := MkS.make hm16 hs17 hk17
          clear hs17 hk17
          refine mix_done ?_
          try simp only [Act.put, List.setIfInBounds_toArray, List.set_cons_succ, List.set_cons_zero]
          refine tree_fork1 [false, false, false, false, false, false, true, true, true, false, false, false] [false, false, false, false, false, false, false, false, false, true, false, true] (by kernel_rfl) ?_
          simp only [keep]
          refine mix_w1 ?_; go_big_quiet_step (fail); refine wpQuiet_nil ?_
          refine mix_w1 ?_; go_big_quiet_step (fail); refine wpQuiet_nil ?_
          refine mix_t fun Q' hQ' => ?_
          go_wp2_with (at_make; refine wpList_makeSl (w := w17a) rfl (.tmp 17) (.tmp 17) 58 rfl (u64 0) rfl Tryz.underlying58 hU0 hU1 hU2 hU3 (by omega) l.length rfl rfl (by omega) ?_; intro w18a hs18 hk18)
          have hm18 := MkS.make hm17 hs18 hk18
          clear hs18 hk18
          refine mix_done ?_
          try simp only [Act.put, List.setIfInBounds_toArray, List.set_cons_succ, List.set_cons_zero]
          refine tree_fork1 [false, false, false, false, false, false, false, false, false, true, false, true] [false, false, false, false, false, false, false, false, false, false, false, false] (by kernel_rfl) ?_
          simp only [keep]
          refine mix_w1 ?_; go_big_quiet_step (fail); refine wpQuiet_nil ?_
          refine mix_t fun Q' hQ' => ?_
          refine wpList_storeBlk rfl _ _ 60 rfl hT0 w1a.heap.size 60 #[.slice none 0 0, .slice none 0 0, .slice none 0 0] #[.slice (some ⟨w0a.heap.size, 0, none⟩) l.length l.length, .slice (some ⟨w16a.heap.size, 0, none⟩) l.length l.length, .slice (some ⟨w17a.heap.size, 0, none⟩) l.length l.length] rfl rfl (by rw [hT1]; rfl) rfl (by intro y hy; simp at hy; rcases hy with rfl | rfl | rfl <;> rfl) (hm18.b w1a.heap.size (by simp)) ?_
          intro wF hbF hkF
          go_wp2_with fail
          refine mix_done ?_
          try simp only [Act.put, List.setIfInBounds_toArray, List.set_cons_succ, List.set_cons_zero]
          refine tree_last (by kernel_rfl) ?_
          simp only [keep]
          refine mix_done ?_
          exact ⟨_, _, _, _, MkS.fin hm18 (by simp) (by simp) (by simp) (by simp) (by have hnd := hm18.nd; simp at hnd; omega) hbF hkF, rfl⟩
        · simp only [keep]
          refine mix_w1 ?_; go_big_quiet_step (fail); refine wpQuiet_nil ?_
          refine mix_w1 ?_; go_big_quiet_step (fail); refine wpQuiet_nil ?_
          refine mix_t fun Q' hQ' => ?_
          go_wp2_with (at_make; refine wpList_makeSl (w := w16a) rfl (.tmp 17) (.tmp 17) 58 rfl (u64 0) rfl Tryz.underlying58 hU0 hU1 hU2 hU3 (by omega) l.length rfl rfl (by omega) ?_; intro w20a hs20 hk20)
          have hm20 := MkS.make hm16 hs20 hk20
          clear hs20 hk20
          refine mix_done ?_
          try simp only [Act.put, List.setIfInBounds_toArray, List.set_cons_succ, List.set_cons_zero]
          refine tree_fork1 [false, false, false, true, true, true, false, false, false, false, false, false] [false, false, false, false, false, false, false, false, false, true, false, true] (by kernel_rfl) ?_
          simp only [keep]
          refine mix_w1 ?_; go_big_quiet_step (fail); refine wpQuiet_nil ?_
          refine mix_w1 ?_; go_big_quiet_step (fail); refine wpQuiet_nil ?_
          refine mix_t fun Q' hQ' => ?_
          go_wp2_with (at_make; refine wpList_makeSl (w := w20a) rfl (.tmp 14) (.tmp 14) 58 rfl (u64 0) rfl Tryz.underlying58 hU0 hU1 hU2 hU3 (by omega) l.length rfl rfl (by omega) ?_; intro w21a hs21 hk21)
          have hm21 := MkS.make hm20 hs21 hk21
          clear hs21 hk21
          refine mix_done ?_
          try simp only [Act.put, List.setIfInBounds_toArray, List.set_cons_succ, List.set_cons_zero]
          refine tree_fork1 [false, false, false, false, false, false, false, false, false, true, false, true] [false, false, false, false, false, false, false, false, false, false, false, false] (by kernel_rfl) ?_
          simp only [keep]
          refine mix_w1 ?_; go_big_quiet_step (fail); refine wpQuiet_nil ?_
          refine mix_t fun Q' hQ' => ?_
          refine wpList_storeBlk rfl _ _ 60 rfl hT0 w1a.heap.size 60 #[.slice none 0 0, .slice none 0 0, .slice none 0 0] #[.slice (some ⟨w0a.heap.size, 0, none⟩) l.length l.length, .slice (some ⟨w20a.heap.size, 0, none⟩) l.length l.length, .slice (some ⟨w16a.heap.size, 0, none⟩) l.length l.length] rfl rfl (by rw [hT1]; rfl) rfl (by intro y hy; simp at hy; rcases hy with rfl | rfl | rfl <;> rfl) (hm21.b w1a.heap.size (by simp)) ?_
          intro wF hbF hkF
          go_wp2_with fail
          refine mix_done ?_
          try simp only [Act.put, List.setIfInBounds_toArray, List.set_cons_succ, List.set_cons_zero]
          refine tree_last (by kernel_rfl) ?_
          simp only [keep]
          refine mix_done ?_
          exact ⟨_, _, _, _, MkS.fin hm21 (by simp) (by simp) (by simp) (by simp) (by have hnd := hm21.nd; simp at hnd; omega) hbF hkF, rfl⟩
    · simp only [keep]
      refine mix_w1 ?_; go_big_quiet_step (fail); refine wpQuiet_nil ?_
      refine mix_w1 ?_; go_big_quiet_step (fail); refine wpQuiet_nil ?_
      refine mix_t fun Q' hQ' => ?_
      go_wp2_with (at_make; refine wpList_makeSl (w := w0a) rfl (.tmp 14) (.tmp 14) 58 rfl (u64 0) rfl Tryz.underlying58 hU0 hU1 hU2 hU3 (by omega) l.length rfl rfl (by omega) ?_; intro w23a hs23 hk23)
      have hm23 := MkS.make hm0 hs23 hk23
      clear hs23 hk23
      refine mix_done ?_
      try simp only [Act.put, List.setIfInBounds_toArray, List.set_cons_succ, List.set_cons_zero]
      refine tree_fork3 [true, true, true, false, false, false, false, false, false, false, false, false] [false, false, false, false, false, false, true, true, true, true, true, true] [false, false, false, false, false, false, true, true, true, false, false, false] [true, true, true, false, false, false, false, false, false, true, true, true] [false, false, false, false, false, false, false, false, false, false, true, false] [true, true, true, false, false, false, true, true, true, true, false, true] (by kernel_rfl) ?_ ?_ ?_
      · simp only [keep]
        refine mix_w1 ?_; go_big_quiet_step (fail); refine wpQuiet_nil ?_
        refine mix_w1 ?_; go_big_quiet_step (fail); refine wpQuiet_nil ?_
        refine mix_t fun Q' hQ' => ?_
        go_wp2_with (at_make; refine wpList_makeSl (w := w23a) rfl (.tmp 11) (.tmp 11) 58 rfl (u64 0) rfl Tryz.underlying58 hU0 hU1 hU2 hU3 (by omega) l.length rfl rfl (by omega) ?_; intro w24a hs24 hk24)
        have hm24 := MkS.make hm23 hs24 hk24
        clear hs24 hk24
        refine mix_done ?_
        try simp only [Act.put, List.setIfInBounds_toArray, List.set_cons_succ, List.set_cons_zero]
        refine tree_fork2 [false, false, false, false, false, false, true, true, true, false, false, false] [false, false, false, false, false, false, false, false, false, true, true, true] [false, false, false, false, false, false, false, false, false, false, true, false] [false, false, false, false, false, false, true, true, true, true, false, true] (by kernel_rfl) ?_ ?_
        · simp only [keep]
          refine mix_w1 ?_; go_big_quiet_step (fail); refine wpQuiet_nil ?_
          refine mix_w1 ?_; go_big_quiet_step (fail); refine wpQuiet_nil ?_
          refine mix_t fun Q' hQ' => ?_
          go_wp2_with (at_make; refine wpList_makeSl (w := w24a) rfl (.tmp 17) (.tmp 17) 58 rfl (u64 0) rfl Tryz.underlying58 hU0 hU1 hU2 hU3 (by omega) l.length rfl rfl (by omega) ?_; intro w25a hs25 hk25)
          have hm25 := MkS.make hm24 hs25 hk25
          clear hs25 hk25
          refine mix_done ?_
          try simp only [Act.put, List.setIfInBounds_toArray, List.set_cons_succ, List.set_cons_zero]
          refine tree_fork1 [false, false, false, false, false, false, false, false, false, false, true, false] [false, false, false, false, false, false, false, false, false, true, false, true] (by kernel_rfl) ?_
          simp only [keep]
          refine mix_t fun Q' hQ' => ?_
          go_wp2_with fail
          have hm26 := MkS.new hm25
          generalize w25a.alloc (.cells #[.slice none 0 0, .slice none 0 0, .slice none 0 0] 60) = w26a at *
          refine mix_done ?_
          try simp only [Act.put, List.setIfInBounds_toArray, List.set_cons_succ, List.set_cons_zero]
          refine tree_fork1 [false, false, false, false, false, false, false, false, false, true, false, true] [false, false, false, false, false, false, false, false, false, false, false, false] (by kernel_rfl) ?_
          simp only [keep]
          refine mix_w1 ?_; go_big_quiet_step (fail); refine wpQuiet_nil ?_
          refine mix_t fun Q' hQ' => ?_
          refine wpList_storeBlk rfl _ _ 60 rfl hT0 w25a.heap.size 60 #[.slice none 0 0, .slice none 0 0, .slice none 0 0] #[.slice (some ⟨w23a.heap.size, 0, none⟩) l.length l.length, .slice (some ⟨w0a.heap.size, 0, none⟩) l.length l.length, .slice (some ⟨w24a.heap.size, 0, none⟩) l.length l.length] rfl rfl (by rw [hT1]; rfl) rfl (by intro y hy; simp at hy; rcases hy with rfl | rfl | rfl <;> rfl) (hm26.b w25a.heap.size (by simp)) ?_
          intro wF hbF hkF
          go_wp2_with fail
          refine mix_done ?_
          try simp only [Act.put, List.setIfInBounds_toArray, List.set_cons_succ, List.set_cons_zero]
          refine tree_last (by kernel_rfl) ?_
          simp only [keep]
          refine mix_done ?_
          exact ⟨_, _, _, _, MkS.fin hm26 (by simp) (by simp) (by simp) (by simp) (by have hnd := hm26.nd; simp at hnd; omega) hbF hkF, rfl⟩
        · simp only [keep]
          refine mix_t fun Q' hQ' => ?_
          go_wp2_with fail
          have hm28 := MkS.new hm24
          generalize w24a.alloc (.cells #[.slice none 0 0, .slice none 0 0, .slice none 0 0] 60) = w28a at *
          refine mix_done ?_
          try simp only [Act.put, List.setIfInBounds_toArray, List.set_cons_succ, List.set_cons_zero]
          refine tree_fork1 [false, false, false, false, false, false, true, true, true, false, false, false] [false, false, false, false, false, false, false, false, false, true, false, true] (by kernel_rfl) ?_
          simp only [keep]
          refine mix_w1 ?_; go_big_quiet_step (fail); refine wpQuiet_nil ?_
          refine mix_w1 ?_; go_big_quiet_step (fail); refine wpQuiet_nil ?_
          refine mix_t fun Q' hQ' => ?_
          go_wp2_with (at_make; refine wpList_makeSl (w := w28a) rfl (.tmp 17) (.tmp 17) 58 rfl (u64 0) rfl Tryz.underlying58 hU0 hU1 hU2 hU3 (by omega) l.length rfl rfl (by omega) ?_; intro w29a hs29 hk29)
          have hm29 := MkS.make hm28 hs29 hk29
          clear hs29 hk29
          refine mix_done ?_
          try simp only [Act.put, List.setIfInBounds_toArray, List.set_cons_succ, List.set_cons_zero]
          refine tree_fork1 [false, false, false, false, false, false, false, false, false, true, false, true] [false, false, false, false, false, false, false, false, false, false, false, false] (by kernel_rfl) ?_
          simp only [keep]
          refine mix_w1 ?_; go_big_quiet_step (fail); refine wpQuiet_nil ?_
          refine mix_t fun Q' hQ' => ?_
          refine wpList_storeBlk rfl _ _ 60 rfl hT0 w24a.heap.size 60 #[.slice none 0 0, .slice none 0 0, .slice none 0 0] #[.slice (some ⟨w23a.heap.size, 0, none⟩) l.length l.length, .slice (some ⟨w0a.heap.size, 0, none⟩) l.length l.length, .slice (some ⟨w28a.heap.size, 0, none⟩) l.length l.length] rfl rfl (by rw [hT1]; rfl) rfl (by intro y hy; simp at hy; rcases hy with rfl | rfl | rfl <;> rfl) (hm29.b w24a.heap.size (by simp)) ?_
          intro wF hbF hkF
          go_wp2_with fail
          refine mix_done ?_
          try simp only [Act.put, List.setIfInBounds_toArray, List.set_cons_succ, List.set_cons_zero]
          refine tree_last (by kernel_rfl) ?_
          simp only [keep]
          refine mix_done ?_
          exact ⟨_, _, _, _, MkS.fin hm29 (by simp) (by simp) (by simp) (by simp) (by have hnd := hm29.nd; simp at hnd; omega) hbF hkF, rfl⟩
      · simp only [keep]
        refine mix_w1 ?_; go_big_quiet_step (fail); refine wpQuiet_nil ?_
        refine mix_w1 ?_; go_big_quiet_step (fail); refine wpQuiet_nil ?_
        refine mix_t fun Q' hQ' => ?_
        go_wp2_with (at_make; refine wpList_makeSl (w := w23a) rfl (.tmp 17) (.tmp 17) 58 rfl (u64 0) rfl Tryz.underlying58 hU0 hU1 hU2 hU3 (by omega) l.length rfl rfl (by omega) ?_; intro w31a hs31 hk31)
        have hm31 := MkS.make hm23 hs31 hk31
        clear hs31 hk31
        refine mix_done ?_
        try simp only [Act.put, List.setIfInBounds_toArray, List.set_cons_succ, List.set_cons_zero]
        refine tree_fork2 [true, true, true, false, false, false, false, false, false, false, false, false] [false, false, false, false, false, false, false, false, false, true, true, true] [false, false, false, false, false, false, false, false, false, false, true, false] [true, true, true, false, false, false, false, false, false, true, false, true] (by kernel_rfl) ?_ ?_
        · simp only [keep]
          refine mix_w1 ?_; go_big_quiet_step (fail); refine wpQuiet_nil ?_
          refine mix_w1 ?_; go_big_quiet_step (fail); refine wpQuiet_nil ?_
          refine mix_t fun Q' hQ' => ?_
          go_wp2_with (at_make; refine wpList_makeSl (w := w31a) rfl (.tmp 11) (.tmp 11) 58 rfl (u64 0) rfl Tryz.underlying58 hU0 hU1 hU2 hU3 (by omega) l.length rfl rfl (by omega) ?_; intro w32a hs32 hk32)
          have hm32 := MkS.make hm31 hs32 hk32
          clear hs32 hk32
          refine mix_done ?_
          try simp only [Act.put, List.setIfInBounds_toArray, List.set_cons_succ, List.set_cons_zero]
          refine tree_fork1 [false, false, false, false, false, false, false, false, false, false, true, false] [false, false, false, false, false, false, false, false, false, true, false, true] (by kernel_rfl) ?_
          simp only [keep]
          refine mix_t fun Q' hQ' => ?_
          go_wp2_with fail
          have hm33 := MkS.new hm32
          generalize w32a.alloc (.cells #[.slice none 0 0, .slice none 0 0, .slice none 0 0] 60) = w33a at *
          refine mix_done ?_
          try simp only [Act.put, List.setIfInBounds_toArray, List.set_cons_succ, List.set_cons_zero]
          refine tree_fork1 [false, false, false, false, false, false, false, false, false, true, false, true] [false, false, false, false, false, false, false, false, false, false, false, false] (by kernel_rfl) ?_
          simp only [keep]
          refine mix_w1 ?_; go_big_quiet_step (fail); refine wpQuiet_nil ?_
          refine mix_t fun Q' hQ' => ?_
          refine wpList_storeBlk rfl _ _ 60 rfl hT0 w32a.heap.size 60 #[.slice none 0 0, .slice none 0 0, .slice none 0 0] #[.slice (some ⟨w31a.heap.size, 0, none⟩) l.length l.length, .slice (some ⟨w0a.heap.size, 0, none⟩) l.length l.length, .slice (some ⟨w23a.heap.size, 0, none⟩) l.length l.length] rfl rfl (by rw [hT1]; rfl) rfl (by intro y hy; simp at hy; rcases hy with rfl | rfl | rfl <;> rfl) (hm33.b w32a.heap.size (by simp)) ?_
          intro wF hbF hkF
          go_wp2_with fail
          refine mix_done ?_
          try simp only [Act.put, List.setIfInBounds_toArray, List.set_cons_succ, List.set_cons_zero]
          refine tree_last (by kernel_rfl) ?_
          simp only [keep]
          refine mix_done ?_
          exact ⟨_, _, _, _, MkS.fin hm33 (by simp) (by simp) (by simp) (by simp) (by have hnd := hm33.nd; simp at hnd; omega) hbF hkF, rfl⟩
        · simp only [keep]
          refine mix_t fun Q' hQ' => ?_
          go_wp2_with fail
          have hm35 := MkS.new hm31
          generalize w31a.alloc (.cells #[.slice none 0 0, .slice none 0 0, .slice none 0 0] 60) = w35a at *
          refine mix_done ?_
          try simp only [Act.put, List.setIfInBounds_toArray, List.set_cons_succ, List.set_cons_zero]
          refine tree_fork1 [true, true, true, false, false, false, false, false, false, false, false, false] [false, false, false, false, false, false, false, false, false, true, false, true] (by kernel_rfl) ?_
          simp only [keep]
          refine mix_w1 ?_; go_big_quiet_step (fail); refine wpQuiet_nil ?_
          refine mix_w1 ?_; go_big_quiet_step (fail); refine wpQuiet_nil ?_
          refine mix_t fun Q' hQ' => ?_
          go_wp2_with (at_make; refine wpList_makeSl (w := w35a) rfl (.tmp 11) (.tmp 11) 58 rfl (u64 0) rfl Tryz.underlying58 hU0 hU1 hU2 hU3 (by omega) l.length rfl rfl (by omega) ?_; intro w36a hs36 hk36)
          have hm36 := MkS.make hm35 hs36 hk36
          clear hs36 hk36
          refine mix_done ?_
          try simp only [Act.put, List.setIfInBounds_toArray, List.set_cons_succ, List.set_cons_zero]
          refine tree_fork1 [false, false, false, false, false, false, false, false, false, true, false, true] [false, false, false, false, false, false, false, false, false, false, false, false] (by kernel_rfl) ?_
          simp only [keep]
          refine mix_w1 ?_; go_big_quiet_step (fail); refine wpQuiet_nil ?_
          refine mix_t fun Q' hQ' => ?_
          refine wpList_storeBlk rfl _ _ 60 rfl hT0 w31a.heap.size 60 #[.slice none 0 0, .slice none 0 0, .slice none 0 0] #[.slice (some ⟨w35a.heap.size, 0, none⟩) l.length l.length, .slice (some ⟨w0a.heap.size, 0, none⟩) l.length l.length, .slice (some ⟨w23a.heap.size, 0, none⟩) l.length l.length] rfl rfl (by rw [hT1]; rfl) rfl (by intro y hy; simp at hy; rcases hy with rfl | rfl | rfl <;> rfl) (hm36.b w31a.heap.size (by simp)) ?_
          intro wF hbF hkF
          go_wp2_with fail
          refine mix_done ?_
          try simp only [Act.put, List.setIfInBounds_toArray, List.set_cons_succ, List.set_cons_zero]
          refine tree_last (by kernel_rfl) ?_
          simp only [keep]
          refine mix_done ?_
          exact ⟨_, _, _, _, MkS.fin hm36 (by simp) (by simp) (by simp) (by simp) (by have hnd := hm36.nd; simp at hnd; omega) hbF hkF, rfl⟩
      · simp only [keep]
        refine mix_t fun Q' hQ' => ?_
        go_wp2_with fail
        have hm38 := MkS.new hm23
        generalize w23a.alloc (.cells #[.slice none 0 0, .slice none 0 0, .slice none 0 0] 60) = w38a at *
        refine mix_done ?_
        try simp only [Act.put, List.setIfInBounds_toArray, List.set_cons_succ, List.set_cons_zero]
        refine tree_fork2 [true, true, true, false, false, false, false, false, false, false, false, false] [false, false, false, false, false, false, true, true, true, true, false, true] [false, false, false, false, false, false, true, true, true, false, false, false] [true, true, true, false, false, false, false, false, false, true, false, true] (by kernel_rfl) ?_ ?_
        · simp only [keep]
          refine mix_w1 ?_; go_big_quiet_step (fail); refine wpQuiet_nil ?_
          refine mix_w1 ?_; go_big_quiet_step (fail); refine wpQuiet_nil ?_
          refine mix_t fun Q' hQ' => ?_
          go_wp2_with (at_make; refine wpList_makeSl (w := w38a) rfl (.tmp 11) (.tmp 11) 58 rfl (u64 0) rfl Tryz.underlying58 hU0 hU1 hU2 hU3 (by omega) l.length rfl rfl (by omega) ?_; intro w39a hs39 hk39)
          have hm39 := MkS.make hm38 hs39 hk39
          clear hs39 hk39
          refine mix_done ?_
          try simp only [Act.put, List.setIfInBounds_toArray, List.set_cons_succ, List.set_cons_zero]
          refine tree_fork1 [false, false, false, false, false, false, true, true, true, false, false, false] [false, false, false, false, false, false, false, false, false, true, false, true] (by kernel_rfl) ?_
          simp only [keep]
          refine mix_w1 ?_; go_big_quiet_step (fail); refine wpQuiet_nil ?_
          refine mix_w1 ?_; go_big_quiet_step (fail); refine wpQuiet_nil ?_
          refine mix_t fun Q' hQ' => ?_
          go_wp2_with (at_make; refine wpList_makeSl (w := w39a) rfl (.tmp 17) (.tmp 17) 58 rfl (u64 0) rfl Tryz.underlying58 hU0 hU1 hU2 hU3 (by omega) l.length rfl rfl (by omega) ?_; intro w40a hs40 hk40)
          have hm40 := MkS.make hm39 hs40 hk40
          clear hs40 hk40
          refine mix_done ?_
          try simp only [Act.put, List.setIfInBounds_toArray, List.set_cons_succ, List.set_cons_zero]
          refine tree_fork1 [false, false, false, false, false, false, false, false, false, true, false, true] [false, false, false, false, false, false, false, false, false, false, false, false] (by kernel_rfl) ?_
          simp only [keep]
          refine mix_w1 ?_; go_big_quiet_step (fail); refine wpQuiet_nil ?_
          refine mix_t fun Q' hQ' => ?_
          refine wpList_storeBlk rfl _ _ 60 rfl hT0 w23a.heap.size 60 #[.slice none 0 0, .slice none 0 0, .slice none 0 0] #[.slice (some ⟨w38a.heap.size, 0, none⟩) l.length l.length, .slice (some ⟨w0a.heap.size, 0, none⟩) l.length l.length, .slice (some ⟨w39a.heap.size, 0, none⟩) l.length l.length] rfl rfl (by rw [hT1]; rfl) rfl (by intro y hy; simp at hy; rcases hy with rfl | rfl | rfl <;> rfl) (hm40.b w23a.heap.size (by simp)) ?_
          intro wF hbF hkF
          go_wp2_with fail
          refine mix_done ?_
          try simp only [Act.put, List.setIfInBounds_toArray, List.set_cons_succ, List.set_cons_zero]
          refine tree_last (by kernel_rfl) ?_
          simp only [keep]
          refine mix_done ?_
          exact ⟨_, _, _, _, MkS.fin hm40 (by simp) (by simp) (by simp) (by simp) (by have hnd := hm40.nd; simp at hnd; omega) hbF hkF, rfl⟩
        · simp only [keep]
          refine mix_w1 ?_; go_big_quiet_step (fail); refine wpQuiet_nil ?_
          refine mix_w1 ?_; go_big_quiet_step (fail); refine wpQuiet_nil ?_
          refine mix_t fun Q' hQ' => ?_
          go_wp2_with (at_make; refine wpList_makeSl (w := w38a) rfl (.tmp 17) (.tmp 17) 58 rfl (u64 0) rfl Tryz.underlying58 hU0 hU1 hU2 hU3 (by omega) l.length rfl rfl (by omega) ?_; intro w42a hs42 hk42)
          have hm42 := MkS.make hm38 hs42 hk42
          clear hs42 hk42
          refine mix_done ?_
          try simp only [Act.put, List.setIfInBounds_toArray, List.set_cons_succ, List.set_cons_zero]
          refine tree_fork1 [true, true, true, false, false, false, false, false, false, false, false, false] [false, false, false, false, false, false, false, false, false, true, false, true] (by kernel_rfl) ?_
          simp only [keep]
          refine mix_w1 ?_; go_big_quiet_step (fail); refine wpQuiet_nil ?_
          refine mix_w1 ?_; go_big_quiet_step (fail); refine wpQuiet_nil ?_
          refine mix_t fun Q' hQ' => ?_
          go_wp2_with (at_make; refine wpList_makeSl (w := w42a) rfl (.tmp 11) (.tmp 11) 58 rfl (u64 0) rfl Tryz.underlying58 hU0 hU1 hU2 hU3 (by omega) l.length rfl rfl (by omega) ?_; intro w43a hs43 hk43)
          have hm43 := MkS.make hm42 hs43 hk43
          clear hs43 hk43
          refine mix_done ?_
          try simp only [Act.put, List.setIfInBounds_toArray, List.set_cons_succ, List.set_cons_zero]
          refine tree_fork1 [false, false, false, false, false, false, false, false, false, true, false, true] [false, false, false, false, false, false, false, false, false, false, false, false] (by kernel_rfl) ?_
          simp only [keep]
          refine mix_w1 ?_; go_big_quiet_step (fail); refine wpQuiet_nil ?_
          refine mix_t fun Q' hQ' => ?_
          refine wpList_storeBlk rfl _ _ 60 rfl hT0 w23a.heap.size 60 #[.slice none 0 0, .slice none 0 0, .slice none 0 0] #[.slice (some ⟨w42a.heap.size, 0, none⟩) l.length l.length, .slice (some ⟨w0a.heap.size, 0, none⟩) l.length l.length, .slice (some ⟨w38a.heap.size, 0, none⟩) l.length l.length] rfl rfl (by rw [hT1]; rfl) rfl (by intro y hy; simp at hy; rcases hy with rfl | rfl | rfl <;> rfl) (hm43.b w23a.heap.size (by simp)) ?_
          intro wF hbF hkF
          go_wp2_with fail
          refine mix_done ?_
          try simp only [Act.put, List.setIfInBounds_toArray, List.set_cons_succ, List.set_cons_zero]
          refine tree_last (by kernel_rfl) ?_
          simp only [keep]
          refine mix_done ?_
          exact ⟨_, _, _, _, MkS.fin hm43 (by simp) (by simp) (by simp) (by simp) (by have hnd := hm43.nd; simp at hnd; omega) hbF hkF, rfl⟩
    · simp only [keep]
      refine mix_w1 ?_; go_big_quiet_step (fail); refine wpQuiet_nil ?_
      refine mix_w1 ?_; go_big_quiet_step (fail); refine wpQuiet_nil ?_
      refine mix_t fun Q' hQ' => ?_
      go_wp2_with (at_make; refine wpList_makeSl (w := w0a) rfl (.tmp 17) (.tmp 17) 58 rfl (u64 0) rfl Tryz.underlying58 hU0 hU1 hU2 hU3 (by omega) l.length rfl rfl (by omega) ?_; intro w45a hs45 hk45)
      have hm45 := MkS.make hm0 hs45 hk45
      clear hs45 hk45
      refine mix_done ?_
      try simp only [Act.put, List.setIfInBounds_toArray, List.set_cons_succ, List.set_cons_zero]
      refine tree_fork3 [true, true, true, false, false, false, false, false, false, false, false, false] [false, false, false, true, true, true, false, false, false, true, true, true] [false, false, false, true, true, true, false, false, false, false, false, false] [true, true, true, false, false, false, false, false, false, true, true, true] [false, false, false, false, false, false, false, false, false, false, true, false] [true, true, true, true, true, true, false, false, false, true, false, true] (by kernel_rfl) ?_ ?_ ?_
      · simp only [keep]
        refine mix_w1 ?_; go_big_quiet_step (fail); refine wpQuiet_nil ?_
        refine mix_w1 ?_; go_big_quiet_step (fail); refine wpQuiet_nil ?_
        refine mix_t fun Q' hQ' => ?_
        go_wp2_with (at_make; refine wpList_makeSl (w := w45a) rfl (.tmp 11) (.tmp 11) 58 rfl (u64 0) rfl Tryz.underlying58 hU0 hU1 hU2 hU3 (by omega) l.length rfl rfl (by omega) ?_; intro w46a hs46 hk46)
        have hm46 := MkS.make hm45 hs46 hk46
        clear hs46 hk46
        refine mix_done ?_
        try simp only [Act.put, List.setIfInBounds_toArray, List.set_cons_succ, List.set_cons_zero]
        refine tree_fork2 [false, false, false, true, true, true, false, false, false, false, false, false] [false, false, false, false, false, false, false, false, false, true, true, true] [false, false, false, false, false, false, false, false, false, false, true, false] [false, false, false, true, true, true, false, false, false, true, false, true] (by kernel_rfl) ?_ ?_
        · simp only [keep]
          refine mix_w1 ?_; go_big_quiet_step (fail); refine wpQuiet_nil ?_
          refine mix_w1 ?_; go_big_quiet_step (fail); refine wpQuiet_nil ?_
          refine mix_t fun Q' hQ' => ?_
          go_wp2_with (at_make; refine wpList_makeSl (w := w46a) rfl (.tmp 14) (.tmp 14) 58 rfl (u64 0) rfl Tryz.underlying58 hU0 hU1 hU2 hU3 (by omega) l.length rfl rfl (by omega) ?_; intro w47a hs47 hk47)
          have hm47 := MkS.make hm46 hs47 hk47
          clear hs47 hk47
          refine mix_done ?_
          try simp only [Act.put, List.setIfInBounds_toArray, List.set_cons_succ, List.set_cons_zero]
          refine tree_fork1 [false, false, false, false, false, false, false, false, false, false, true, false] [false, false, false, false, false, false, false, false, false, true, false, true] (by kernel_rfl) ?_
          simp only [keep]
          refine mix_t fun Q' hQ' => ?_
          go_wp2_with fail
          have hm48 := MkS.new hm47
          generalize w47a.alloc (.cells #[.slice none 0 0, .slice none 0 0, .slice none 0 0] 60) = w48a at *
          refine mix_done ?_
          try simp only [Act.put, List.setIfInBounds_toArray, List.set_cons_succ, List.set_cons_zero]
          refine tree_fork1 [false, false, false, false, false, false, false, false, false, true, false, true] [false, false, false, false, false, false, false, false, false, false, false, false] (by kernel_rfl) ?_
          simp only [keep]
          refine mix_w1 ?_; go_big_quiet_step (fail); refine wpQuiet_nil ?_
          refine mix_t fun Q' hQ' => ?_
          refine wpList_storeBlk rfl _ _ 60 rfl hT0 w47a.heap.size 60 #[.slice none 0 0, .slice none 0 0, .slice none 0 0] #[.slice (some ⟨w45a.heap.size, 0, none⟩) l.length l.length, .slice (some ⟨w46a.heap.size, 0, none⟩) l.length l.length, .slice (some ⟨w0a.heap.size, 0, none⟩) l.length l.length] rfl rfl (by rw [hT1]; rfl) rfl (by intro y hy; simp at hy; rcases hy with rfl | rfl | rfl <;> rfl) (hm48.b w47a.heap.size (by simp)) ?_
          intro wF hbF hkF
          go_wp2_with fail
          refine mix_done ?_
          try simp only [Act.put, List.setIfInBounds_toArray, List.set_cons_succ, List.set_cons_zero]
          refine tree_last (by kernel_rfl) ?_
          simp only [keep]
          refine mix_done ?_
          exact ⟨_, _, _, _, MkS.fin hm48 (by simp) (by simp) (by simp) (by simp) (by have hnd := hm48.nd; simp at hnd; omega) hbF hkF, rfl⟩
        · simp only [keep]
          refine mix_t fun Q' hQ' => ?_
          go_wp2_with fail
          have hm50 := MkS.new hm46
          generalize w46a.alloc (.cells #[.slice none 0 0, .slice none 0 0, .slice none 0 0] 60) = w50a at *
          refine mix_done ?_
          try simp only [Act.put, List.setIfInBounds_toArray, List.set_cons_succ, List.set_cons_zero]
          refine tree_fork1 [false, false, false, true, true, true, false, false, false, false, false, false] [false, false, false, false, false, false, false, false, false, true, false, true] (by kernel_rfl) ?_
          simp only [keep]
          refine mix_w1 ?_; go_big_quiet_step (fail); refine wpQuiet_nil ?_
          refine mix_w1 ?_; go_big_quiet_step (fail); refine wpQuiet_nil ?_
          refine mix_t fun Q' hQ' => ?_
          go_wp2_with (at_make; refine wpList_makeSl (w := w50a) rfl (.tmp 14) (.tmp 14) 58 rfl (u64 0) rfl Tryz.underlying58 hU0 hU1 hU2 hU3 (by omega) l.length rfl rfl (by omega) ?_; intro w51a hs51 hk51)
          have hm51 := MkS.make hm50 hs51 hk51
          clear hs51 hk51
          refine mix_done ?_
          try simp only [Act.put, List.setIfInBounds_toArray, List.set_cons_succ, List.set_cons_zero]
          refine tree_fork1 [false, false, false, false, false, false, false, false, false, true, false, true] [false, false, false, false, false, false, false, false, false, false, false, false] (by kernel_rfl) ?_
          simp only [keep]
          refine mix_w1 ?_; go_big_quiet_step (fail); refine wpQuiet_nil ?_
          refine mix_t fun Q' hQ' => ?_
          refine wpList_storeBlk rfl _ _ 60 rfl hT0 w46a.heap.size 60 #[.slice none 0 0, .slice none 0 0, .slice none 0 0] #[.slice (some ⟨w45a.heap.size, 0, none⟩) l.length l.length, .slice (some ⟨w50a.heap.size, 0, none⟩) l.length l.length, .slice (some ⟨w0a.heap.size, 0, none⟩) l.length l.length] rfl rfl (by rw [hT1]; rfl) rfl (by intro y hy; simp at hy; rcases hy with rfl | rfl | rfl <;> rfl) (hm51.b w46a.heap.size (by simp)) ?_
          intro wF hbF hkF
          go_wp2_with fail
          refine mix_done ?_
          try simp only [Act.put, List.setIfInBounds_toArray, List.set_cons_succ, List.set_cons_zero]
          refine tree_last (by kernel_rfl) ?_
          simp only [keep]
          refine mix_done ?_
          exact ⟨_, _, _, _, MkS.fin hm51 (by simp) (by simp) (by simp) (by simp) (by have hnd := hm51.nd; simp at hnd; omega) hbF hkF, rfl⟩
      · simp only [keep]
        refine mix_w1 ?_; go_big_quiet_step (fail); refine wpQuiet_nil ?_
        refine mix_w1 ?_; go_big_quiet_step (fail); refine wpQuiet_nil ?_
        refine mix_t fun Q' hQ' => ?_
        go_wp2_with (at_make; refine wpList_makeSl (w := w45a) rfl (.tmp 14) (.tmp 14) 58 rfl (u64 0) rfl Tryz.underlying58 hU0 hU1 hU2 hU3 (by omega) l.length rfl rfl (by omega) ?_; intro w53a hs53 hk53)
        have hm53 := MkS.make hm45 hs53 hk53
        clear hs53 hk53
        refine mix_done ?_
        try simp only [Act.put, List.setIfInBounds_toArray, List.set_cons_succ, List.set_cons_zero]
        refine tree_fork2 [true, true, true, false, false, false, false, false, false, false, false, false] [false, false, false, false, false, false, false, false, false, true, true, true] [false, false, false, false, false, false, false, false, false, false, true, false] [true, true, true, false, false, false, false, false, false, true, false, true] (by kernel_rfl) ?_ ?_
        · simp only [keep]
          refine mix_w1 ?_; go_big_quiet_step (fail); refine wpQuiet_nil ?_
          refine mix_w1 ?_; go_big_quiet_step (fail); refine wpQuiet_nil ?_
          refine mix_t fun Q' hQ' => ?_
          go_wp2_with (at_make; refine wpList_makeSl (w := w53a) rfl (.tmp 11) (.tmp 11) 58 rfl (u64 0) rfl Tryz.underlying58 hU0 hU1 hU2 hU3 (by omega) l.length rfl rfl (by omega) ?_; intro w54a hs54 hk54)
          have hm54 := MkS.make hm53 hs54 hk54
          clear hs54 hk54
          refine mix_done ?_
          try simp only [Act.put, List.setIfInBounds_toArray, List.set_cons_succ, List.set_cons_zero]
          refine tree_fork1 [false, false, false, false, false, false, false, false, false, false, true, false] [false, false, false, false, false, false, false, false, false, true, false, true] (by kernel_rfl) ?_
          simp only [keep]
          refine mix_t fun Q' hQ' => ?_
          go_wp2_with fail
          have hm55 := MkS.new hm54
          generalize w54a.alloc (.cells #[.slice none 0 0, .slice none 0 0, .slice none 0 0] 60) = w55a at *
          refine mix_done ?_
          try simp only [Act.put, List.setIfInBounds_toArray, List.set_cons_succ, List.set_cons_zero]
          refine tree_fork1 [false, false, false, false, false, false, false, false, false, true, false, true] [false, false, false, false, false, false, false, false, false, false, false, false] (by kernel_rfl) ?_
          simp only [keep]
          refine mix_w1 ?_; go_big_quiet_step (fail); refine wpQuiet_nil ?_
          refine mix_t fun Q' hQ' => ?_
          refine wpList_storeBlk rfl _ _ 60 rfl hT0 w54a.heap.size 60 #[.slice none 0 0, .slice none 0 0, .slice none 0 0] #[.slice (some ⟨w53a.heap.size, 0, none⟩) l.length l.length, .slice (some ⟨w45a.heap.size, 0, none⟩) l.length l.length, .slice (some ⟨w0a.heap.size, 0, none⟩) l.length l.length] rfl rfl (by rw [hT1]; rfl) rfl (by intro y hy; simp at hy; rcases hy with rfl | rfl | rfl <;> rfl) (hm55.b w54a.heap.size (by simp)) ?_
          intro wF hbF hkF
          go_wp2_with fail
          refine mix_done ?_
          try simp only [Act.put, List.setIfInBounds_toArray, List.set_cons_succ, List.set_cons_zero]
          refine tree_last (by kernel_rfl) ?_
          simp only [keep]
          refine mix_done ?_
          exact ⟨_, _, _, _, MkS.fin hm55 (by simp) (by simp) (by simp) (by simp) (by have hnd := hm55.nd; simp at hnd; omega) hbF hkF, rfl⟩
        · simp only [keep]
          refine mix_t fun Q' hQ' => ?_
          go_wp2_with fail
          have hm57 := MkS.new hm53
          generalize w53a.alloc (.cells #[.slice none 0 0, .slice none 0 0, .slice none 0 0] 60) = w57a at *
          refine mix_done ?_
          try simp only [Act.put, List.setIfInBounds_toArray, List.set_cons_succ, List.set_cons_zero]
          refine tree_fork1 [true, true, true, false, false, false, false, false, false, false, false, false] [false, false, false, false, false, false, false, false, false, true, false, true] (by kernel_rfl) ?_
          simp only [keep]
          refine mix_w1 ?_; go_big_quiet_step (fail); refine wpQuiet_nil ?_
          refine mix_w1 ?_; go_big_quiet_step (fail); refine wpQuiet_nil ?_
          refine mix_t fun Q' hQ' => ?_
          go_wp2_with (at_make; refine wpList_makeSl (w := w57a) rfl (.tmp 11) (.tmp 11) 58 rfl (u64 0) rfl Tryz.underlying58 hU0 hU1 hU2 hU3 (by omega) l.length rfl rfl (by omega) ?_; intro w58a hs58 hk58)
          have hm58 := MkS.make hm57 hs58 hk58
          clear hs58 hk58
          refine mix_done ?_
          try simp only [Act.put, List.setIfInBounds_toArray, List.set_cons_succ, List.set_cons_zero]
          refine tree_fork1 [false, false, false, false, false, false, false, false, false, true, false, true] [false, false, false, false, false, false, false, false, false, false, false, false] (by kernel_rfl) ?_
          simp only [keep]
          refine mix_w1 ?_; go_big_quiet_step (fail); refine wpQuiet_nil ?_
          refine mix_t fun Q' hQ' => ?_
          refine wpList_storeBlk rfl _ _ 60 rfl hT0 w53a.heap.size 60 #[.slice none 0 0, .slice none 0 0, .slice none 0 0] #[.slice (some ⟨w57a.heap.size, 0, none⟩) l.length l.length, .slice (some ⟨w45a.heap.size, 0, none⟩) l.length l.length, .slice (some ⟨w0a.heap.size, 0, none⟩) l.length l.length] rfl rfl (by rw [hT1]; rfl) rfl (by intro y hy; simp at hy; rcases hy with rfl | rfl | rfl <;> rfl) (hm58.b w53a.heap.size (by simp)) ?_
          intro wF hbF hkF
          go_wp2_with fail
          refine mix_done ?_
          try simp only [Act.put, List.setIfInBounds_toArray, List.set_cons_succ, List.set_cons_zero]
          refine tree_last (by kernel_rfl) ?_
          simp only [keep]
          refine mix_done ?_
          exact ⟨_, _, _, _, MkS.fin hm58 (by simp) (by simp) (by simp) (by simp) (by have hnd := hm58.nd; simp at hnd; omega) hbF hkF, rfl⟩
      · simp only [keep]
        refine mix_t fun Q' hQ' => ?_
        go_wp2_with fail
        have hm60 := MkS.new hm45
        generalize w45a.alloc (.cells #[.slice none 0 0, .slice none 0 0, .slice none 0 0] 60) = w60a at *
        refine mix_done ?_
        try simp only [Act.put, List.setIfInBounds_toArray, List.set_cons_succ, List.set_cons_zero]
        refine tree_fork2 [true, true, true, false, false, false, false, false, false, false, false, false] [false, false, false, true, true, true, false, false, false, true, false, true] [false, false, false, true, true, true, false, false, false, false, false, false] [true, true, true, false, false, false, false, false, false, true, false, true] (by kernel_rfl) ?_ ?_
        · simp only [keep]
          refine mix_w1 ?_; go_big_quiet_step (fail); refine wpQuiet_nil ?_
          refine mix_w1 ?_; go_big_quiet_step (fail); refine wpQuiet_nil ?_
          refine mix_t fun Q' hQ' => ?_
          go_wp2_with (at_make; refine wpList_makeSl (w := w60a) rfl (.tmp 11) (.tmp 11) 58 rfl (u64 0) rfl Tryz.underlying58 hU0 hU1 hU2 hU3 (by omega) l.length rfl rfl (by omega) ?_; intro w61a hs61 hk61)
          have hm61 := MkS.make hm60 hs61 hk61
          clear hs61 hk61
          refine mix_done ?_
          try simp only [Act.put, List.setIfInBounds_toArray, List.set_cons_succ, List.set_cons_zero]
          refine tree_fork1 [false, false, false, true, true, true, false, false, false, false, false, false] [false, false, false, false, false, false, false, false, false, true, false, true] (by kernel_rfl) ?_
          simp only [keep]
          refine mix_w1 ?_; go_big_quiet_step (fail); refine wpQuiet_nil ?_
          refine mix_w1 ?_; go_big_quiet_step (fail); refine wpQuiet_nil ?_
          refine mix_t fun Q' hQ' => ?_
          go_wp2_with (at_make; refine wpList_makeSl (w := w61a) rfl (.tmp 14) (.tmp 14) 58 rfl (u64 0) rfl Tryz.underlying58 hU0 hU1 hU2 hU3 (by omega) l.length rfl rfl (by omega) ?_; intro w62a hs62 hk62)
          have hm62 := MkS.make hm61 hs62 hk62
          clear hs62 hk62
          refine mix_done ?_
          try simp only [Act.put, List.setIfInBounds_toArray, List.set_cons_succ, List.set_cons_zero]
          refine tree_fork1 [false, false, false, false, false, false, false, false, false, true, false, true] [false, false, false, false, false, false, false, false, false, false, false, false] (by kernel_rfl) ?_
          simp only [keep]
          refine mix_w1 ?_; go_big_quiet_step (fail); refine wpQuiet_nil ?_
          refine mix_t fun Q' hQ' => ?_
          refine wpList_storeBlk rfl _ _ 60 rfl hT0 w45a.heap.size 60 #[.slice none 0 0, .slice none 0 0, .slice none 0 0] #[.slice (some ⟨w60a.heap.size, 0, none⟩) l.length l.length, .slice (some ⟨w61a.heap.size, 0, none⟩) l.length l.length, .slice (some ⟨w0a.heap.size, 0, none⟩) l.length l.length] rfl rfl (by rw [hT1]; rfl) rfl (by intro y hy; simp at hy; rcases hy with rfl | rfl | rfl <;> rfl) (hm62.b w45a.heap.size (by simp)) ?_
          intro wF hbF hkF
          go_wp2_with fail
          refine mix_done ?_
          try simp only [Act.put, List.setIfInBounds_toArray, List.set_cons_succ, List.set_cons_zero]
          refine tree_last (by kernel_rfl) ?_
          simp only [keep]
          refine mix_done ?_
          exact ⟨_, _, _, _, MkS.fin hm62 (by simp) (by simp) (by simp) (by simp) (by have hnd := hm62.nd; simp at hnd; omega) hbF hkF, rfl⟩
        · simp only [keep]
          refine mix_w1 ?_; go_big_quiet_step (fail); refine wpQuiet_nil ?_
          refine mix_w1 ?_; go_big_quiet_step (fail); refine wpQuiet_nil ?_
          refine mix_t fun Q' hQ' => ?_
          go_wp2_with (at_make; refine wpList_makeSl (w := w60a) rfl (.tmp 14) (.tmp 14) 58 rfl (u64 0) rfl Tryz.underlying58 hU0 hU1 hU2 hU3 (by omega) l.length rfl rfl (by omega) ?_; intro w64a hs64 hk64)
          have hm64 := MkS.make hm60 hs64 hk64
          clear hs64 hk64
          refine mix_done ?_
          try simp only [Act.put, List.setIfInBounds_toArray, List.set_cons_succ, List.set_cons_zero]
          refine tree_fork1 [true, true, true, false, false, false, false, false, false, false, false, false] [false, false, false, false, false, false, false, false, false, true, false, true] (by kernel_rfl) ?_
          simp only [keep]
          refine mix_w1 ?_; go_big_quiet_step (fail); refine wpQuiet_nil ?_
          refine mix_w1 ?_; go_big_quiet_step (fail); refine wpQuiet_nil ?_
          refine mix_t fun Q' hQ' => ?_
          go_wp2_with (at_make; refine wpList_makeSl (w := w64a) rfl (.tmp 11) (.tmp 11) 58 rfl (u64 0) rfl Tryz.underlying58 hU0 hU1 hU2 hU3 (by omega) l.length rfl rfl (by omega) ?_; intro w65a hs65 hk65)
          have hm65 := MkS.make hm64 hs65 hk65
          clear hs65 hk65
          refine mix_done ?_
          try simp only [Act.put, List.setIfInBounds_toArray, List.set_cons_succ, List.set_cons_zero]
          refine tree_fork1 [false, false, false, false, false, false, false, false, false, true, false, true] [false, false, false, false, false, false, false, false, false, false, false, false] (by kernel_rfl) ?_
          simp only [keep]
          refine mix_w1 ?_; go_big_quiet_step (fail); refine wpQuiet_nil ?_
          refine mix_t fun Q' hQ' => ?_
          refine wpList_storeBlk rfl _ _ 60 rfl hT0 w45a.heap.size 60 #[.slice none 0 0, .slice none 0 0, .slice none 0 0] #[.slice (some ⟨w64a.heap.size, 0, none⟩) l.length l.length, .slice (some ⟨w60a.heap.size, 0, none⟩) l.length l.length, .slice (some ⟨w0a.heap.size, 0, none⟩) l.length l.length] rfl rfl (by rw [hT1]; rfl) rfl (by intro y hy; simp at hy; rcases hy with rfl | rfl | rfl <;> rfl) (hm65.b w45a.heap.size (by simp)) ?_
          intro wF hbF hkF
          go_wp2_with fail
          refine mix_done ?_
          try simp only [Act.put, List.setIfInBounds_toArray, List.set_cons_succ, List.set_cons_zero]
          refine tree_last (by kernel_rfl) ?_
          simp only [keep]
          refine mix_done ?_
          exact ⟨_, _, _, _, MkS.fin hm65 (by simp) (by simp) (by simp) (by simp) (by have hnd := hm65.nd; simp at hnd; omega) hbF hkF, rfl⟩
    · simp only [keep]
      refine mix_t fun Q' hQ' => ?_
      go_wp2_with fail
      have hm67 := MkS.new hm0
      generalize w0a.alloc (.cells #[.slice none 0 0, .slice none 0 0, .slice none 0 0] 60) = w67a at *
      refine mix_done ?_
      try simp only [Act.put, List.setIfInBounds_toArray, List.set_cons_succ, List.set_cons_zero]
      refine tree_fork3 [true, true, true, false, false, false, false, false, false, false, false, false] [false, false, false, true, true, true, true, true, true, true, false, true] [false, false, false, true, true, true, false, false, false, false, false, false] [true, true, true, false, false, false, true, true, true, true, false, true] [false, false, false, false, false, false, true, true, true, false, false, false] [true, true, true, true, true, true, false, false, false, true, false, true] (by kernel_rfl) ?_ ?_ ?_
      · simp only [keep]
        refine mix_w1 ?_; go_big_quiet_step (fail); refine wpQuiet_nil ?_
        refine mix_w1 ?_; go_big_quiet_step (fail); refine wpQuiet_nil ?_
        refine mix_t fun Q' hQ' => ?_
        go_wp2_with (at_make; refine wpList_makeSl (w := w67a) rfl (.tmp 11) (.tmp 11) 58 rfl (u64 0) rfl Tryz.underlying58 hU0 hU1 hU2 hU3 (by omega) l.length rfl rfl (by omega) ?_; intro w68a hs68 hk68)
        have hm68 := MkS.make hm67 hs68 hk68
        clear hs68 hk68
        refine mix_done ?_
        try simp only [Act.put, List.setIfInBounds_toArray, List.set_cons_succ, List.set_cons_zero]
        refine tree_fork2 [false, false, false, true, true, true, false, false, false, false, false, false] [false, false, false, false, false, false, true, true, true, true, false, true] [false, false, false, false, false, false, true, true, true, false, false, false] [false, false, false, true, true, true, false, false, false, true, false, true] (by kernel_rfl) ?_ ?_
        · simp only [keep]
          refine mix_w1 ?_; go_big_quiet_step (fail); refine wpQuiet_nil ?_
          refine mix_w1 ?_; go_big_quiet_step (fail); refine wpQuiet_nil ?_
          refine mix_t fun Q' hQ' => ?_
          go_wp2_with (at_make; refine wpList_makeSl (w := w68a) rfl (.tmp 14) (.tmp 14) 58 rfl (u64 0) rfl Tryz.underlying58 hU0 hU1 hU2 hU3 (by omega) l.length rfl rfl (by omega) ?_; intro w69a hs69 hk69)
          have hm69 := MkS.make hm68 hs69 hk69
          clear hs69 hk69
          refine mix_done ?_
          try simp only [Act.put, List.setIfInBounds_toArray, List.set_cons_succ, List.set_cons_zero]
          refine tree_fork1 [false, false, false, false, false, false, true, true, true, false, false, false] [false, false, false, false, false, false, false, false, false, true, false, true] (by kernel_rfl) ?_
          simp only [keep]
          refine mix_w1 ?_; go_big_quiet_step (fail); refine wpQuiet_nil ?_
          refine mix_w1 ?_; go_big_quiet_step (fail); refine wpQuiet_nil ?_
          refine mix_t fun Q' hQ' => ?_
          go_wp2_with (at_make; refine wpList_makeSl (w := w69a) rfl (.tmp 17) (.tmp 17) 58 rfl (u64 0) rfl Tryz.underlying58 hU0 hU1 hU2 hU3 (by omega) l.length rfl rfl (by omega) ?_; intro w70a hs70 hk70)
          have hm70 := MkS.make hm69 hs70 hk70
          clear hs70 hk70
          refine mix_done ?_
          try simp only [Act.put, List.setIfInBounds_toArray, List.set_cons_succ, List.set_cons_zero]
          refine tree_fork1 [false, false, false, false, false, false, false, false, false, true, false, true] [false, false, false, false, false, false, false, false, false, false, false, false] (by kernel_rfl) ?_
          simp only [keep]
          refine mix_w1 ?_; go_big_quiet_step (fail); refine wpQuiet_nil ?_
          refine mix_t fun Q' hQ' => ?_
          refine wpList_storeBlk rfl _ _ 60 rfl hT0 w0a.heap.size 60 #[.slice none 0 0, .slice none 0 0, .slice none 0 0] #[.slice (some ⟨w67a.heap.size, 0, none⟩) l.length l.length, .slice (some ⟨w68a.heap.size, 0, none⟩) l.length l.length, .slice (some ⟨w69a.heap.size, 0, none⟩) l.length l.length] rfl rfl (by rw [hT1]; rfl) rfl (by intro y hy; simp at hy; rcases hy with rfl | rfl | rfl <;> rfl) (hm70.b w0a.heap.size (by simp)) ?_
          intro wF hbF hkF
          go_wp2_with fail
          refine mix_done ?_
          try simp only [Act.put, List.setIfInBounds_toArray, List.set_cons_succ, List.set_cons_zero]
          refine tree_last (by kernel_rfl) ?_
          simp only [keep]
          refine mix_done ?_
          exact ⟨_, _, _, _, MkS.fin hm70 (by simp) (by simp) (by simp) (by simp) (by have hnd := hm70.nd; simp at hnd; omega) hbF hkF, rfl⟩
        · simp only [keep]
          refine mix_w1 ?_; go_big_quiet_step (fail); refine wpQuiet_nil ?_
          refine mix_w1 ?_; go_big_quiet_step (fail); refine wpQuiet_nil ?_
          refine mix_t fun Q' hQ' => ?_
          go_wp2_with (at_make; refine wpList_makeSl (w := w68a) rfl (.tmp 17) (.tmp 17) 58 rfl (u64 0) rfl Tryz.underlying58 hU0 hU1 hU2 hU3 (by omega) l.length rfl rfl (by omega) ?_; intro w72a hs72 hk72)
          have hm72 := MkS.make hm68 hs72 hk72
          clear hs72 hk72
          refine mix_done ?_
          try simp only [Act.put, List.setIfInBounds_toArray, List.set_cons_succ, List.set_cons_zero]
          refine tree_fork1 [false, false, false, true, true, true, false, false, false, false, false, false] [false, false, false, false, false, false, false, false, false, true, false, true] (by kernel_rfl) ?_
          simp only [keep]
          refine mix_w1 ?_; go_big_quiet_step (fail); refine wpQuiet_nil ?_
          refine mix_w1 ?_; go_big_quiet_step (fail); refine wpQuiet_nil ?_
          refine mix_t fun Q' hQ' => ?_
          go_wp2_with (at_make; refine wpList_makeSl (w := w72a) rfl (.tmp 14) (.tmp 14) 58 rfl (u64 0) rfl Tryz.underlying58 hU0 hU1 hU2 hU3 (by omega) l.length rfl rfl (by omega) ?_; intro w73a hs73 hk73)
          have hm73 := MkS.make hm72 hs73 hk73
          clear hs73 hk73
          refine mix_done ?_
          try simp only [Act.put, List.setIfInBounds_toArray, List.set_cons_succ, List.set_cons_zero]
          refine tree_fork1 [false, false, false, false, false, false, false, false, false, true, false, true] [false, false, false, false, false, false, false, false, false, false, false, false] (by kernel_rfl) ?_
          simp only [keep]
          refine mix_w1 ?_; go_big_quiet_step (fail); refine wpQuiet_nil ?_
          refine mix_t fun Q' hQ' => ?_
          refine wpList_storeBlk rfl _ _ 60 rfl hT0 w0a.heap.size 60 #[.slice none 0 0, .slice none 0 0, .slice none 0 0] #[.slice (some ⟨w67a.heap.size, 0, none⟩) l.length l.length, .slice (some ⟨w72a.heap.size, 0, none⟩) l.length l.length, .slice (some ⟨w68a.heap.size, 0, none⟩) l.length l.length] rfl rfl (by rw [hT1]; rfl) rfl (by intro y hy; simp at hy; rcases hy with rfl | rfl | rfl <;> rfl) (hm73.b w0a.heap.size (by simp)) ?_
          intro wF hbF hkF
          go_wp2_with fail
          refine mix_done ?_
          try simp only [Act.put, List.setIfInBounds_toArray, List.set_cons_succ, List.set_cons_zero]
          refine tree_last (by kernel_rfl) ?_
          simp only [keep]
          refine mix_done ?_
          exact ⟨_, _, _, _, MkS.fin hm73 (by simp) (by simp) (by simp) (by simp) (by have hnd := hm73.nd; simp at hnd; omega) hbF hkF, rfl⟩
      · simp only [keep]
        refine mix_w1 ?_; go_big_quiet_step (fail); refine wpQuiet_nil ?_
        refine mix_w1 ?_; go_big_quiet_step (fail); refine wpQuiet_nil ?_
        refine mix_t fun Q' hQ' => ?_
        go_wp2_with (at_make; refine wpList_makeSl (w := w67a) rfl (.tmp 14) (.tmp 14) 58 rfl (u64 0) rfl Tryz.underlying58 hU0 hU1 hU2 hU3 (by omega) l.length rfl rfl (by omega) ?_; intro w75a hs75 hk75)
        have hm75 := MkS.make hm67 hs75 hk75
        clear hs75 hk75
        refine mix_done ?_
        try simp only [Act.put, List.setIfInBounds_toArray, List.set_cons_succ, List.set_cons_zero]
        refine tree_fork2 [true, true, true, false, false, false, false, false, false, false, false, false] [false, false, false, false, false, false, true, true, true, true, false, true] [false, false, false, false, false, false, true, true, true, false, false, false] [true, true, true, false, false, false, false, false, false, true, false, true] (by kernel_rfl) ?_ ?_
        · simp only [keep]
          refine mix_w1 ?_; go_big_quiet_step (fail); refine wpQuiet_nil ?_
          refine mix_w1 ?_; go_big_quiet_step (fail); refine wpQuiet_nil ?_
          refine mix_t fun Q' hQ' => ?_
          go_wp2_with (at_make; refine wpList_makeSl (w := w75a) rfl (.tmp 11) (.tmp 11) 58 rfl (u64 0) rfl Tryz.underlying58 hU0 hU1 hU2 hU3 (by omega) l.length rfl rfl (by omega) ?_; intro w76a hs76 hk76)
          have hm76 := MkS.make hm75 hs76 hk76
          clear hs76 hk76
          refine mix_done ?_
          try simp only [Act.put, List.setIfInBounds_toArray, List.set_cons_succ, List.set_cons_zero]
          refine tree_fork1 [false, false, false, false, false, false, true, true, true, false, false, false] [false, false, false, false, false, false, false, false, false, true, false, true] (by kernel_rfl) ?_
          simp only [keep]
          refine mix_w1 ?_; go_big_quiet_step (fail); refine wpQuiet_nil ?_
          refine mix_w1 ?_; go_big_quiet_step (fail); refine wpQuiet_nil ?_
          refine mix_t fun Q' hQ' => ?_
          go_wp2_with (at_make; refine wpList_makeSl (w := w76a) rfl (.tmp 17) (.tmp 17) 58 rfl (u64 0) rfl Tryz.underlying58 hU0 hU1 hU2 hU3 (by omega) l.length rfl rfl (by omega) ?_; intro w77a hs77 hk77)
          have hm77 := MkS.make hm76 hs77 hk77
          clear hs77 hk77
          refine mix_done ?_
          try simp only [Act.put, List.setIfInBounds_toArray, List.set_cons_succ, List.set_cons_zero]
          refine tree_fork1 [false, false, false, false, false, false, false, false, false, true, false, true] [false, false, false, false, false, false, false, false, false, false, false, false] (by kernel_rfl) ?_
          simp only [keep]
          refine mix_w1 ?_; go_big_quiet_step (fail); refine wpQuiet_nil ?_
          refine mix_t fun Q' hQ' => ?_
          refine wpList_storeBlk rfl _ _ 60 rfl hT0 w0a.heap.size 60 #[.slice none 0 0, .slice none 0 0, .slice none 0 0] #[.slice (some ⟨w75a.heap.size, 0, none⟩) l.length l.length, .slice (some ⟨w67a.heap.size, 0, none⟩) l.length l.length, .slice (some ⟨w76a.heap.size, 0, none⟩) l.length l.length] rfl rfl (by rw [hT1]; rfl) rfl (by intro y hy; simp at hy; rcases hy with rfl | rfl | rfl <;> rfl) (hm77.b w0a.heap.size (by simp)) ?_
          intro wF hbF hkF
          go_wp2_with fail
          refine mix_done ?_
          try simp only [Act.put, List.setIfInBounds_toArray, List.set_cons_succ, List.set_cons_zero]
          refine tree_last (by kernel_rfl) ?_
          simp only [keep]
          refine mix_done ?_
          exact ⟨_, _, _, _, MkS.fin hm77 (by simp) (by simp) (by simp) (by simp) (by have hnd := hm77.nd; simp at hnd; omega) hbF hkF, rfl⟩
        · simp only [keep]
          refine mix_w1 ?_; go_big_quiet_step (fail); refine wpQuiet_nil ?_
          refine mix_w1 ?_; go_big_quiet_step (fail); refine wpQuiet_nil ?_
          refine mix_t fun Q' hQ' => ?_
          go_wp2_with (at_make; refine wpList_makeSl (w := w75a) rfl (.tmp 17) (.tmp 17) 58 rfl (u64 0) rfl Tryz.underlying58 hU0 hU1 hU2 hU3 (by omega) l.length rfl rfl (by omega) ?_; intro w79a hs79 hk79)
          have hm79 := MkS.make hm75 hs79 hk79
          clear hs79 hk79
          refine mix_done ?_
          try simp only [Act.put, List.setIfInBounds_toArray, List.set_cons_succ, List.set_cons_zero]
          refine tree_fork1 [true, true, true, false, false, false, false, false, false, false, false, false] [false, false, false, false, false, false, false, false, false, true, false, true] (by kernel_rfl) ?_
          simp only [keep]
          refine mix_w1 ?_; go_big_quiet_step (fail); refine wpQuiet_nil ?_
          refine mix_w1 ?_; go_big_quiet_step (fail); refine wpQuiet_nil ?_
          refine mix_t fun Q' hQ' => ?_
          go_wp2_with (at_make; refine wpList_makeSl (w := w79a) rfl (.tmp 11) (.tmp 11) 58 rfl (u64 0) rfl Tryz.underlying58 hU0 hU1 hU2 hU3 (by omega) l.length rfl rfl (by omega) ?_; intro w80a hs80 hk80)
          have hm80 := MkS.make hm79 hs80 hk80
          clear hs80 hk80
          refine mix_done ?_
          try simp only [Act.put, List.setIfInBounds_toArray, List.set_cons_succ, List.set_cons_zero]
          refine tree_fork1 [false, false, false, false, false, false, false, false, false, true, false, true] [false, false, false, false, false, false, false, false, false, false, false, false] (by kernel_rfl) ?_
          simp only [keep]
          refine mix_w1 ?_; go_big_quiet_step (fail); refine wpQuiet_nil ?_
          refine mix_t fun Q' hQ' => ?_
          refine wpList_storeBlk rfl _ _ 60 rfl hT0 w0a.heap.size 60 #[.slice none 0 0, .slice none 0 0, .slice none 0 0] #[.slice (some ⟨w79a.heap.size, 0, none⟩) l.length l.length, .slice (some ⟨w67a.heap.size, 0, none⟩) l.length l.length, .slice (some ⟨w75a.heap.size, 0, none⟩) l.length l.length] rfl rfl (by rw [hT1]; rfl) rfl (by intro y hy; simp at hy; rcases hy with rfl | rfl | rfl <;> rfl) (hm80.b w0a.heap.size (by simp)) ?_
          intro wF hbF hkF
          go_wp2_with fail
          refine mix_done ?_
          try simp only [Act.put, List.setIfInBounds_toArray, List.set_cons_succ, List.set_cons_zero]
          refine tree_last (by kernel_rfl) ?_
          simp only [keep]
          refine mix_done ?_
          exact ⟨_, _, _, _, MkS.fin hm80 (by simp) (by simp) (by simp) (by simp) (by have hnd := hm80.nd; simp at hnd; omega) hbF hkF, rfl⟩
      · simp only [keep]
        refine mix_w1 ?_; go_big_quiet_step (fail); refine wpQuiet_nil ?_
        refine mix_w1 ?_; go_big_quiet_step (fail); refine wpQuiet_nil ?_
        refine mix_t fun Q' hQ' => ?_
        go_wp2_with (at_make; refine wpList_makeSl (w := w67a) rfl (.tmp 17) (.tmp 17) 58 rfl (u64 0) rfl Tryz.underlying58 hU0 hU1 hU2 hU3 (by omega) l.length rfl rfl (by omega) ?_; intro w82a hs82 hk82)
        have hm82 := MkS.make hm67 hs82 hk82
        clear hs82 hk82
        refine mix_done ?_
        try simp only [Act.put, List.setIfInBounds_toArray, List.set_cons_succ, List.set_cons_zero]
        refine tree_fork2 [true, true, true, false, false, false, false, false, false, false, false, false] [false, false, false, true, true, true, false, false, false, true, false, true] [false, false, false, true, true, true, false, false, false, false, false, false] [true, true, true, false, false, false, false, false, false, true, false, true] (by kernel_rfl) ?_ ?_
        · simp only [keep]
          refine mix_w1 ?_; go_big_quiet_step (fail); refine wpQuiet_nil ?_
          refine mix_w1 ?_; go_big_quiet_step (fail); refine wpQuiet_nil ?_
          refine mix_t fun Q' hQ' => ?_
          go_wp2_with (at_make; refine wpList_makeSl (w := w82a) rfl (.tmp 11) (.tmp 11) 58 rfl (u64 0) rfl Tryz.underlying58 hU0 hU1 hU2 hU3 (by omega) l.length rfl rfl (by omega) ?_; intro w83a hs83 hk83)
          have hm83 := MkS.make hm82 hs83 hk83
          clear hs83 hk83
          refine mix_done ?_
          try simp only [Act.put, List.setIfInBounds_toArray, List.set_cons_succ, List.set_cons_zero]
          refine tree_fork1 [false, false, false, true, true, true, false, false, false, false, false, false] [false, false, false, false, false, false, false, false, false, true, false, true] (by kernel_rfl) ?_
          simp only [keep]
          refine mix_w1 ?_; go_big_quiet_step (fail); refine wpQuiet_nil ?_
          refine mix_w1 ?_; go_big_quiet_step (fail); refine wpQuiet_nil ?_
          refine mix_t fun Q' hQ' => ?_
          go_wp2_with (at_make; refine wpList_makeSl (w := w83a) rfl (.tmp 14) (.tmp 14) 58 rfl (u64 0) rfl Tryz.underlying58 hU0 hU1 hU2 hU3 (by omega) l.length rfl rfl (by omega) ?_; intro w84a hs84 hk84)
          have hm84 := MkS.make hm83 hs84 hk84
          clear hs84 hk84
          refine mix_done ?_
          try simp only [Act.put, List.setIfInBounds_toArray, List.set_cons_succ, List.set_cons_zero]
          refine tree_fork1 [false, false, false, false, false, false, false, false, false, true, false, true] [false, false, false, false, false, false, false, false, false, false, false, false] (by kernel_rfl) ?_
          simp only [keep]
          refine mix_w1 ?_; go_big_quiet_step (fail); refine wpQuiet_nil ?_
          refine mix_t fun Q' hQ' => ?_
          refine wpList_storeBlk rfl _ _ 60 rfl hT0 w0a.heap.size 60 #[.slice none 0 0, .slice none 0 0, .slice none 0 0] #[.slice (some ⟨w82a.heap.size, 0, none⟩) l.length l.length, .slice (some ⟨w83a.heap.size, 0, none⟩) l.length l.length, .slice (some ⟨w67a.heap.size, 0, none⟩) l.length l.length] rfl rfl (by rw [hT1]; rfl) rfl (by intro y hy; simp at hy; rcases hy with rfl | rfl | rfl <;> rfl) (hm84.b w0a.heap.size (by simp)) ?_
          intro wF hbF hkF
          go_wp2_with fail
          refine mix_done ?_
          try simp only [Act.put, List.setIfInBounds_toArray, List.set_cons_succ, List.set_cons_zero]
          refine tree_last (by kernel_rfl) ?_
          simp only [keep]
          refine mix_done ?_
          exact ⟨_, _, _, _, MkS.fin hm84 (by simp) (by simp) (by simp) (by simp) (by have hnd := hm84.nd; simp at hnd; omega) hbF hkF, rfl⟩
        · simp only [keep]
          refine mix_w1 ?_; go_big_quiet_step (fail); refine wpQuiet_nil ?_
          refine mix_w1 ?_; go_big_quiet_step (fail); refine wpQuiet_nil ?_
          refine mix_t fun Q' hQ' => ?_
          go_wp2_with (at_make; refine wpList_makeSl (w := w82a) rfl (.tmp 14) (.tmp 14) 58 rfl (u64 0) rfl Tryz.underlying58 hU0 hU1 hU2 hU3 (by omega) l.length rfl rfl (by omega) ?_; intro w86a hs86 hk86)
          have hm86 := MkS.make hm82 hs86 hk86
          clear hs86 hk86
          refine mix_done ?_
          try simp only [Act.put, List.setIfInBounds_toArray, List.set_cons_succ, List.set_cons_zero]
          refine tree_fork1 [true, true, true, false, false, false, false, false, false, false, false, false] [false, false, false, false, false, false, false, false, false, true, false, true] (by kernel_rfl) ?_
          simp only [keep]
          refine mix_w1 ?_; go_big_quiet_step (fail); refine wpQuiet_nil ?_
          refine mix_w1 ?_; go_big_quiet_step (fail); refine wpQuiet_nil ?_
          refine mix_t fun Q' hQ' => ?_
          go_wp2_with (at_make; refine wpList_makeSl (w := w86a) rfl (.tmp 11) (.tmp 11) 58 rfl (u64 0) rfl Tryz.underlying58 hU0 hU1 hU2 hU3 (by omega) l.length rfl rfl (by omega) ?_; intro w87a hs87 hk87)
          have hm87 := MkS.make hm86 hs87 hk87
          clear hs87 hk87
          refine mix_done ?_
          try simp only [Act.put, List.setIfInBounds_toArray, List.set_cons_succ, List.set_cons_zero]
          refine tree_fork1 [false, false, false, false, false, false, false, false, false, true, false, true] [false, false, false, false, false, false, false, false, false, false, false, false] (by kernel_rfl) ?_
          simp only [keep]
          refine mix_w1 ?_; go_big_quiet_step (fail); refine wpQuiet_nil ?_
          refine mix_t fun Q' hQ' => ?_
          refine wpList_storeBlk rfl _ _ 60 rfl hT0 w0a.heap.size 60 #[.slice none 0 0, .slice none 0 0, .slice none 0 0] #[.slice (some ⟨w86a.heap.size, 0, none⟩) l.length l.length, .slice (some ⟨w82a.heap.size, 0, none⟩) l.length l.length, .slice (some ⟨w67a.heap.size, 0, none⟩) l.length l.length] rfl rfl (by rw [hT1]; rfl) rfl (by intro y hy; simp at hy; rcases hy with rfl | rfl | rfl <;> rfl) (hm87.b w0a.heap.size (by simp)) ?_
          intro wF hbF hkF
          go_wp2_with fail
          refine mix_done ?_
          try simp only [Act.put, List.setIfInBounds_toArray, List.set_cons_succ, List.set_cons_zero]
          refine tree_last (by kernel_rfl) ?_
          simp only [keep]
          refine mix_done ?_
          exact ⟨_, _, _, _, MkS.fin hm87 (by simp) (by simp) (by simp) (by simp) (by have hnd := hm87.nd; simp at hnd; omega) hbF hkF, rfl⟩
  rintro e a' w1 ⟨rfl, gL, gS, gW, gb, hM4, rfl⟩
  show K _ w1
  refine HK _ _ ?_
  obtain ⟨hbA, hkA, hszA⟩ := HA.out
  have hK1 := hkA.trans hM4.k (fun _ _ h => h)
  have hb1 := hM4.k.blk id hbA
  obtain ⟨hgL, hgS, hgW, hgb⟩ := hM4.hi
  have HM4 := Lib.hid hM4
  rw [hszA] at hgL hgS hgW hgb
  have HK1 := Lib.hid hK1
  have HB1 := Lib.hid hb1
  clear HK HA hbA hkA hszA hM4 hK1 hb1
  go_wp2_with fail
  refine (HSU.out w1 (HIN.out _ HK1.out)).mono ?_
  rintro e w2 ⟨pv, p0, rfl, hP, hk2, hpo2⟩
  have hP := hP trivial
  obtain ⟨pa, pc, rfl⟩ := Sl.any hP
  rw [List.length_map] at *
  have HK2 := Lib.hid hk2
  clear hP hpo2 hk2
  go_wp2_with fail
  refine (HRO.out w2 (HIN.out _ (HK1.out.trans HK2.out (fun _ _ h => h)))).mono ?_
  rintro e w3 ⟨ov, rfl, hB, hk3, hbo⟩
  obtain ⟨oa, oc, rfl⟩ := Sl.any hB
  rw [List.length_map, rchL_len] at *
  have hk13 := HK2.out.trans hk3 (fun _ _ h => h)
  have hTM3 := HM4.out.t.kept hk13 (fun _ h => h.elim)
  have hbb3 := hk13.blk id HM4.out.b
  have hbr3 := hk13.blk id HB1.out
  have hK03 := HK1.out.trans hk13 (fun _ _ h => h)
  have hl1 := Sl.lt HM4.out.t.l gL rfl
  have hl2 := Sl.lt HM4.out.t.s gS rfl
  have hl3 := Sl.lt HM4.out.t.w_ gW rfl
  have hsz2 := HK2.out.size
  have hne4 := HM4.out.ne
  have hBO : ∀ g, (Value.slice oa l.length oc).ownBlock = some g → ¬ (g = gL ∨ g = gS ∨ g = gW) := fun g hg e => by
    have := hbo g hg
    omega
  have H3 := Lib.hid (And.intro hTM3 (And.intro hbb3 (And.intro hbr3 (And.intro hK03 (And.intro hB hBO)))))
  clear hk13 hTM3 hbb3 hbr3 hK03 hB hbo hBO hk3 HSU HRO HK1 HB1 HK2 HM4
  have HIN3 : Hid (∀ (W : World) (hk : Kept (fun g => g = gL ∨ g = gS ∨ g = gW) w3 W), Kept (fun _ => False) w W) := Lib.hid (fun W hk => H3.out.2.2.2.1.trans hk (fun x hx e => by rw [hr0] at hx; have e : x = gL ∨ x = gS ∨ x = gW := e; omega))
  generalize hN : (partsL l).length = N at *
  have HNN := Lib.hid hN
  go_wp2_with fail
  go_loopw [8] (fun rv wr => ∃ (r : Nat) (TL TS TW : List Nat), rv = .int .i64 r ∧ r ≤ N ∧ TM l.length gL gS gW wr TL TS TW ∧ (Gd l V1 lam r l.length TL ∧ Gd l V2 lam r l.length TS ∧ Gd l V3 lam r l.length TW) ∧ Kept (fun g => g = gL ∨ g = gS ∨ g = gW) w3 wr) (fun rv _ => N - (intOf rv).toNat)
  case atStart => exact ⟨0, _, _, _, rfl, by omega, H3.out.1, ⟨HST.out V1, HST.out V2, HST.out V3⟩, Kept.refl _ w3⟩
  case round =>
  obtain ⟨r, TL, TS, TW, rfl, hr, hTM, hGG, hk⟩ := hrel
  have HT := Lib.hid (And.intro hTM (And.intro hGG hk))
  clear hTM hGG hk
  by_cases hrn : r < N
  case neg =>
    obtain rfl : r = N := by omega
    have hdl : decide ((r : Int) < r) = false := decide_eq_false (by omega)
    obtain ⟨hTM, hGG, hk⟩ := HT.out
    have hbb := hk.blk (fun e => by have e : gb = gL ∨ gb = gS ∨ gb = gW := e; omega) H3.out.2.1
    have hbr := hk.blk (fun e => by have e : r0 = gL ∨ r0 = gS ∨ r0 = gW := e; omega) H3.out.2.2.1
    have cb0 := hbb.cell 0
    have cb1 := hbb.cell 1
    have cb2 := hbb.cell 2
    have HKF := Lib.hid (HIN3.out _ hk)
    have HAA := Lib.hid (fun i hri => And.intro (HAL.out V1 _ _ hGG.1 i hri) (And.intro (HAL.out V2 _ _ hGG.2.1 i hri) (HAL.out V3 _ _ hGG.2.2 i hri)))
    clear hGG hk HAL
    go_wp2_with (refine wpList_storeBlk rfl _ _ 60 rfl hT0 r0 60 #[.slice none 0 0, .slice none 0 0, .slice none 0 0] #[.slice (some ⟨gL, 0, none⟩) l.length l.length, .slice (some ⟨gS, 0, none⟩) l.length l.length, .slice (some ⟨gW, 0, none⟩) l.length l.length] rfl rfl (by rw [hT1]; rfl) rfl (by intro y hy; simp at hy; rcases hy with rfl | rfl | rfl <;> rfl) hbr ?_; intro wF hbF hkF)
    refine bodyPost_ret (v := .agg #[.slice (some ⟨gL, 0, none⟩) l.length l.length, .slice (some ⟨gS, 0, none⟩) l.length l.length, .slice (some ⟨gW, 0, none⟩) l.length l.length]) (results_cellT rfl _ _ r0 _ _ (0, 0) _ rfl hbF Tryz.underlying60 rfl infoT) rfl ?_
    exact ⟨gL, gS, gW, TL, TS, TW, rfl, hTM.kept hkF (fun g hg => by have hg : g = r0 := hg; omega), HAA.out, HKF.out.trans hkF (fun x hx e => by rw [hr0] at hx; have e : x = r0 := e; omega)⟩
  case pos =>
  have hdl : decide ((r : Int) < N) = true := decide_eq_true (by omega)
  go_wp2_with fail
  go_loopw [9] (fun iv wx => ∃ (p : Nat) (TL TS TW : List Nat), iv = .int .i64 ((p : Int) - 1) ∧ p ≤ l.length ∧ TM l.length gL gS gW wx TL TS TW ∧ (Gd l V1 lam r p TL ∧ Gd l V2 lam r p TS ∧ Gd l V3 lam r p TW) ∧ Kept (fun g => g = gL ∨ g = gS ∨ g = gW) w3 wx) (fun iv _ => (intOf iv + 1).toNat)
  case atStart => exact ⟨l.length, TL, TS, TW, rfl, by omega, HT.out.1, HT.out.2.1, HT.out.2.2⟩
  case round =>
  clear HT
  obtain ⟨p, TL, TS, TW, hiv, hp, hTM, hGG, hk⟩ := hrel
  have HT := Lib.hid (And.intro hTM (And.intro hGG hk))
  cases p with
  | zero =>
    have hiv : _ = Value.int .i64 (-1) := hiv
    subst hiv
    clear hTM hGG hk
    go_wp2_with fail
    go_roundw
    case rel => exact ⟨r + 1, TL, TS, TW, by simp, by omega, HT.out.1, ⟨HNX.out _ _ _ HT.out.2.1.1, HNX.out _ _ _ HT.out.2.1.2.1, HNX.out _ _ _ HT.out.2.1.2.2⟩, HT.out.2.2⟩
    case measure => (simp [intOf]; omega)
  | succ k =>
    rw [show (((k + 1 : Nat) : Int) - 1) = k by omega] at hiv
    subst hiv
    have hkd : decide ((k : Int) ≥ 0) = true := decide_eq_true (by omega)
    have hkd2 : decide ((0 : Int) ≤ k) = true := decide_eq_true (by omega)
    have hkl : k < l.length := by omega
    obtain ⟨x, hx⟩ : ∃ x, l[k]? = some x := ⟨_, List.getElem?_eq_getElem hkl⟩
    have hBx := Sl.kept hk H3.out.2.2.2.2.1 (fun g hg => H3.out.2.2.2.2.2 g hg)
    obtain ⟨bg, bcap, hbv, hbcap, hbl⟩ := Sl.some_ hBx (by rw [List.length_map, rchL_len]; omega)
    rw [List.length_map, rchL_len] at hbv
    cases hbv
    have hbc := Bls.cell hBx (rchL_get hkl)
    have hbb := hk.blk (fun e => by have e : gb = gL ∨ gb = gS ∨ gb = gW := e; omega) H3.out.2.1
    have cb0 := hbb.cell 0
    have cb1 := hbb.cell 1
    have cb2 := hbb.cell 2
    have HX := Lib.hid hx
    by_cases hrk : Rch l k
    case pos =>
      rw [@decide_eq_true _ (Classical.propDecidable _) hrk] at hbc
      have HO := Lib.hid (HON.out k x TL TS TW gL gS gW _ (HIN.out _ (HIN3.out _ hk)) hrk hx hTM hGG.1.hi hGG.2.1.hi hGG.2.2.hi)
      have HRK := Lib.hid hrk
      clear hTM hGG hk hx hBx hbb hrk
      go_wp2_with fail
      refine HO.out.mono ?_
      rintro e w6 ⟨rfl, hTM6, hk6⟩
      have HT6 := Lib.hid (And.intro hTM6 hk6)
      clear hTM6 hk6 HO
      go_wp2_with fail
      go_roundw
      case rel => exact ⟨k, _, _, _, rfl, by omega, HT6.out.1, ⟨HS1.out _ _ _ _ HT.out.2.1.1 HRK.out HX.out, HS2.out _ _ _ _ HT.out.2.1.2.1 HRK.out HX.out, HS3.out _ _ _ _ HT.out.2.1.2.2 HRK.out HX.out⟩, HT.out.2.2.trans HT6.out.2 (fun _ _ h => h)⟩
      case measure => simp [intOf]
    case neg =>
      rw [@decide_eq_false _ (Classical.propDecidable _) hrk] at hbc
      have HRK := Lib.hid hrk
      clear hTM hGG hk hx hBx hbb hrk
      go_wp2_with fail
      go_roundw
      case rel => exact ⟨k, TL, TS, TW, rfl, by omega, HT.out.1, ⟨HT.out.2.1.1.skip HRK.out, HT.out.2.1.2.1.skip HRK.out, HT.out.2.1.2.2.skip HRK.out⟩, HT.out.2.2⟩
      case measure => simp [intOf]

end Go.Proofs.YtlkgmcacbfoijaaGreat

