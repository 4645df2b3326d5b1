import Derived.Test.YtopdoanfpjaehaaNp
set_option linter.unusedSimpArgs false
set_option linter.unusedVariables false
namespace Go.Proofs.Ytopdoanfpjaehaa
open Go.RowKit

/-! ### the rows of live registers, in memory -/
def ucell (n : Nat) : List Value := [.int .u16 n]
abbrev U16s (w : World) (v : Value) (L : List Nat) : Prop := Sl w 35 1 v (L.map ucell)
theorem infoU : (Try.prog.info? 35).map (fun i => (i.zero, i.size, i.bytes)) = some (some (.int .u16 0), 1, 2) := by kernel_rfl
theorem U16s.cell {w : World} {g n cap : Nat} {L : List Nat} (h : U16s w (.slice (some ⟨g, 0, none⟩) n cap) L) {i : Nat} {x : Nat} (hi : L[i]? = some x) : w.cell? ⟨g, i, none⟩ = some (.int .u16 x) := by
  have := Sl.cell h (i := i) (c := ucell x) (by rw [List.getElem?_map, hi]; rfl) (k := 0) (by omega)
  simpa [ucell] using this
theorem U16s.set {w : World} {g n cap : Nat} {L : List Nat} (h : U16s w (.slice (some ⟨g, 0, none⟩) n cap) L) {i : Nat} (hi : i < L.length) (x : Nat) : U16s (w.setCell ⟨g, i, none⟩ (.int .u16 x)) (.slice (some ⟨g, 0, none⟩) n cap) (L.set i x) := by
  have := Sl.setCell h (i := i) (c := ucell L[i]) (by rw [List.getElem?_map, List.getElem?_eq_getElem hi]; rfl) (k := 0) (by omega) (.int .u16 x)
  simp only [ucell, List.set_cons_zero, Nat.mul_one, Nat.add_zero] at this
  unfold U16s
  rw [List.map_set]
  exact this
def vcell (v : Value) : List Value := [v]
structure RowM (w0 w : World) (g : Nat) (l : List In) (a : Option Addr) (c ng nc vg vc : Nat) (V : List Value) (N : List (List Int)) (L : List Nat) : Prop where
  kept : Kept (fun _ => False) w0 w
  ins : Ins w0 (.slice a l.length c) l
  blk : Blk w g 50 #[.slice a l.length c, .slice (some ⟨ng, 0, none⟩) l.length nc, .slice (some ⟨vg, 0, none⟩) l.length vc]
  nx : Sl w 32 1 (.slice (some ⟨ng, 0, none⟩) l.length nc) (V.map vcell)
  ns : ∀ (i : Nat) (v : Value) (M : List Int), V[i]? = some v → N[i]? = some M → Ints w v M ∧ v.ownBlock ≠ some vg ∧ v.ownBlock ≠ some ng
  vlen : V.length = l.length
  nlen : N.length = l.length
  lv : U16s w (.slice (some ⟨vg, 0, none⟩) l.length vc) L
  new : w0.heap.size ≤ vg ∧ w0.heap.size ≤ ng
  ne : g ≠ vg ∧ ng ≠ vg ∧ g ≠ ng
section
variable {w0 w w' : World} {g : Nat} {l : List In} {a : Option Addr} {c ng nc vg vc : Nat} {V : List Value} {N : List (List Int)} {L : List Nat}
theorem RowM.llen (h : RowM w0 w g l a c ng nc vg vc V N L) : L.length = l.length := by
  have := h.lv.len
  rw [List.length_map] at this
  exact this.symm
theorem RowM.quiet (h : RowM w0 w g l a c ng nc vg vc V N L) (hk : Kept (fun _ => False) w w') : RowM w0 w' g l a c ng nc vg vc V N L where
  kept := h.kept.trans hk (fun _ _ h => h)
  ins := h.ins
  blk := hk.blk (fun h => h) h.blk
  nx := Sl.kept hk h.nx (fun _ _ h => h)
  ns := fun i v M h1 h2 => ⟨Sl.kept hk (h.ns i v M h1 h2).1 (fun _ _ h => h), (h.ns i v M h1 h2).2⟩
  vlen := h.vlen
  nlen := h.nlen
  lv := Sl.kept hk h.lv (fun _ _ h => h)
  new := h.new
  ne := h.ne
theorem RowM.set (h : RowM w0 w g l a c ng nc vg vc V N L) {i : Nat} (hi : i < l.length) (x : Nat) : RowM w0 (w.setCell ⟨vg, i, none⟩ (.int .u16 x)) g l a c ng nc vg vc V N (L.set i x) where
  kept := h.kept.setCell (p := ⟨vg, i, none⟩) (fun e => by have e : vg < w0.heap.size := e; have := h.new.1; omega) _
  ins := h.ins
  blk := h.blk.far (p := ⟨vg, i, none⟩) h.ne.1 _
  nx := h.nx.far (p := ⟨vg, i, none⟩) (by simpa [Value.ownBlock] using h.ne.2.1) _
  ns := fun i v M h1 h2 => ⟨Sl.far (h.ns i v M h1 h2).1 (h.ns i v M h1 h2).2.1 _, (h.ns i v M h1 h2).2⟩
  vlen := h.vlen
  nlen := h.nlen
  lv := h.lv.set (by rw [h.llen]; exact hi) x
  new := h.new
  ne := h.ne
theorem RowM.setN (h : RowM w0 w g l a c ng nc vg vc V N L) {i : Nat} (hi : i < l.length) {v : Value} {M : List Int} (hv : Ints w v M) (hb : v.ownBlock ≠ some vg ∧ v.ownBlock ≠ some ng) : RowM w0 (w.setCell ⟨ng, i, none⟩ v) g l a c ng nc vg vc (V.set i v) (N.set i M) L where
  kept := h.kept.setCell (p := ⟨ng, i, none⟩) (fun e => by have e : ng < w0.heap.size := e; have := h.new.2; omega) _
  ins := h.ins
  blk := h.blk.far (p := ⟨ng, i, none⟩) h.ne.2.2 _
  nx := by
    have := Sl.setCell h.nx (i := i) (c := vcell (V[i]'(by rw [h.vlen]; exact hi))) (by rw [List.getElem?_map, List.getElem?_eq_getElem (by rw [h.vlen]; exact hi)]; rfl) (k := 0) (by omega) v
    simp only [vcell, List.set_cons_zero, Nat.mul_one, Nat.add_zero] at this
    rw [List.map_set]
    exact this
  ns := fun j u K h1 h2 => by
    by_cases e : i = j
    · subst e
      rw [List.getElem?_set_self (by rw [h.vlen]; exact hi)] at h1
      rw [List.getElem?_set_self (by rw [h.nlen]; exact hi)] at h2
      cases h1
      cases h2
      exact ⟨Sl.far hv hb.2 _, hb⟩
    · rw [List.getElem?_set_ne e] at h1 h2
      exact ⟨Sl.far (h.ns j u K h1 h2).1 (h.ns j u K h1 h2).2.2 _, (h.ns j u K h1 h2).2⟩
  vlen := by rw [List.length_set, h.vlen]
  nlen := by rw [List.length_set, h.nlen]
  lv := h.lv.far (p := ⟨ng, i, none⟩) (by simpa [Value.ownBlock] using h.ne.2.1.symm) _
  new := h.new
  ne := h.ne
theorem RowM.insw (h : RowM w0 w g l a c ng nc vg vc V N L) : Ins w (.slice a l.length c) l := h.ins.kept h.kept
end
set_option maxHeartbeats 4000000 in
set_option maxRecDepth 100000 in
theorem lbehind_any {w0 w : World} {g : Nat} {l : List In} {a : Option Addr} {c ng nc vg vc : Nat} {V : List Value} {N : List (List Int)} {L : List Nat} (h : RowM w0 w g l a c ng nc vg vc V N L) {i : Nat} {M : List Int} (hM : N[i]? = some M)
    (hr : ∀ t ∈ M, 0 ≤ t ∧ t < l.length) (hl : ∀ v ∈ L, v < 65536) (hlen : l.length ≤ 1000000) (hml : M.length ≤ 2) : Calls Try.prog 19 #[.pointer (some ⟨g, 0, none⟩), .int .i64 i] w fun e w' => e = .returned (.int .u16 (behN L M)) ∧ w = w' := by
  have hi : i < l.length := by
    have := (List.getElem?_eq_some_iff.1 hM).1
    rw [h.nlen] at this
    exact this
  obtain ⟨v, hv⟩ : ∃ v, V[i]? = some v := ⟨_, List.getElem?_eq_getElem (by rw [h.vlen]; exact hi)⟩
  obtain ⟨hI, hne⟩ := h.ns i v M hv hM
  have hc1 := h.blk.cell 1
  have hc2 := h.blk.cell 2
  have hn1 : w.cell? ⟨ng, i, none⟩ = some v := by
    have := Sl.cell h.nx (i := i) (c := vcell v) (by rw [List.getElem?_map, hv]; rfl) (k := 0) (by omega)
    simpa [vcell] using this
  obtain ⟨A, mc, hva⟩ := Sl.any hI
  rw [List.length_map] at hva
  subst hva
  have HI := Lib.hid hI
  have HL := Lib.hid h.lv
  have HLL := Lib.hid h.llen
  have HR := Lib.hid hr
  have HLT := Lib.hid hl
  have HM := Lib.hid hM
  clear hM hv hI hne hr hl h
  go_enter Try.func19, Try.ntmps19
  go_wp2_with fail
  go_loopw [5, 16] (fun ov iv wr => ∃ j : Nat, ov = .int .u16 (behN L (M.take j)) ∧ iv = .int .i64 j ∧ j ≤ M.length ∧ w = wr) (fun _ iv _ => M.length - (intOf iv).toNat)
  case atStart => exact ⟨0, rfl, rfl, by omega, rfl⟩
  case round =>
    obtain ⟨j, rfl, rfl, hj, rfl⟩ := hrel
    by_cases hlt : j < M.length
    case neg =>
      obtain rfl : j = M.length := by omega
      rw [List.take_length]
      go_wp2_with fail
      go_ret
      exact ⟨rfl, rfl⟩
    case pos =>
      obtain ⟨t, ht⟩ : ∃ t, M[j]? = some t := ⟨_, List.getElem?_eq_getElem hlt⟩
      obtain ⟨ht0, ht1⟩ := HR.out t (List.mem_of_getElem? ht)
      obtain ⟨n, rfl⟩ : ∃ n : Nat, t = n := ⟨t.toNat, by omega⟩
      have hn : n < l.length := by omega
      obtain ⟨u, hu⟩ : ∃ u, L[n]? = some u := ⟨_, List.getElem?_eq_getElem (by rw [HLL.out]; exact hn)⟩
      have hu0 := HL.out.cell hu
      obtain ⟨mg, mc', hsl, hmc, hmg⟩ := Sl.some_ HI.out (by rw [List.length_map]; omega)
      obtain ⟨rfl, -, rfl⟩ := Value.slice.inj hsl
      have hm0 := Ints.cell HI.out ht
      have hult := HLT.out u (List.mem_of_getElem? hu)
      have hor := bits_or_u16_nat (behN_lt HLT.out (M.take j)) hult
      have HNX : Hid (behN L (M.take (j + 1)) = behN L (M.take j) ||| u) := Lib.hid (by
        rw [behN_next ht, List.getD_eq_getElem?_getD, show ((n : Int)).toNat = n from rfl, hu]
        rfl)
      clear ht hu hult hsl ht0 ht1
      go_wp2_with fail
      go_roundw
      case rel => exact ⟨j + 1, by rw [HNX.out], by go_num, by omega, by first | trivial | rfl⟩
      case measure => simp [intOf]; omega

end Go.Proofs.Ytopdoanfpjaehaa
set_option linter.unusedSimpArgs false
set_option linter.unusedVariables false
namespace Go.Proofs.Ytopdoanfpjaehaa
open Go.RowKit

/-! ### joins -/
theorem naU16s : ∀ w, (isAgg 28).run Try.prog w = .ok false w := fun w => by kernel_rfl
theorem naU16 : ∀ w, (isAgg 35).run Try.prog w = .ok false w := fun w => by kernel_rfl
theorem naIns : ∀ w, (isAgg 27).run Try.prog w = .ok false w := fun w => by kernel_rfl
theorem aggIn : ∀ w, (isAgg 26).run Try.prog w = .ok true w := fun w => by kernel_rfl
theorem infoIn5 : (Try.prog.info? 26).map (·.size) = some 5 := by kernel_rfl
theorem mix_loadIn {ops : Array Oper} {C : World → Prop} {K : Act → World → Prop} {ks : List Kd} {o : Oper} {l : List Oper} {a : Act} {w : World} (hC : C w) (hg : o.guard = none) (x : Operand) (hop : o.op = .load 26 x)
    (ad : Addr) (y : In) (hx : a.eval x = .pointer (some ad)) (hc : ∀ w', C w' → ∀ (k : Nat) (u : Value), (inVals y)[k]? = some u → w'.cell? (ad.add k) = some u) (h : Mix Try.prog ops C K ks l (a.put o.dst (.agg (inVals y))) w) : Mix Try.prog ops C K (.l :: ks) (o :: l) a w := by
  refine mix_valG hC (by simp [Region.wanted, hg]) (.agg (inVals y)) (fun w' hw' => ?_) h
  have hl := run_loadCells_list (P := Try.prog) w' ad (inVals y).toList (fun j v hv => hc w' hw' j v (by simpa using hv))
  obtain ⟨i0, hi0, hi1⟩ := Option.map_eq_some_iff.1 infoIn5
  have hl5 : (inVals y).toList.length = 5 := rfl
  rw [hl5] at hl
  simp [execOp, hop, hx, Instr.loadAt, Instr.sureAddr, loadVar, aggIn w', sizeOf, typeInfo, hi0, hi1, hl, Result.andThen]
set_option maxHeartbeats 8000000 in
set_option maxRecDepth 100000 in
theorem ljoins_any {w0 w : World} {g : Nat} {l : List In} {a : Option Addr} {c ng nc vg vc : Nat} {V : List Value} {N : List (List Int)} {L : List Nat} (h : RowM w0 w g l a c ng nc vg vc V N L) {i : Nat} {x : In} (hx : l[i]? = some x) (hxo : InOk x) (hri : rightB x = true)
    {M : List Int} (hM : N[i]? = some M) (hr : ∀ t ∈ M, 0 ≤ t ∧ t < l.length) (hl : ∀ v ∈ L, v < 65536) (hlen : l.length ≤ 1000000) (hml : M.length ≤ 2) {v0 : Nat} (hv0 : L[i]? = some v0) {r : Nat} (hr1 : v0 ||| (readsN x ||| lessN (behN L M) (writesN x)) = r) :
    Calls Try.prog 45 #[.pointer (some ⟨g, 0, none⟩), .int .i64 i] w fun e w' => e = .returned (.bool ((r : Int) != (v0 : Int))) ∧ RowM w0 w' g l a c ng nc vg vc V N (L.set i r) ∧ Kept (fun k => k = vg) w w' := by
  have hi := (List.getElem?_eq_some_iff.1 hx).1
  obtain ⟨hd, hs⟩ := rightB_regs hri
  have HRD := Lib.hid (fun W => lreads_any x W hxo hd hs)
  have HWR := Lib.hid (fun W => lwrites_any x W hxo hd)
  have HBH := Lib.hid (fun W (hW : RowM w0 W g l a c ng nc vg vc V N L) => lbehind_any hW hM hr hl hlen hml)
  have hrl := readsN_lt x hd hs
  have hwl := writesN_lt x hd
  have hbl := behN_lt hl M
  have hvl := hl v0 (List.mem_of_getElem? hv0)
  have hls := bits_less_u16_nat hbl hwl
  have hor1 := bits_or_u16_nat hrl (less_lt (b := writesN x) hbl)
  have hor2 := bits_or_u16_nat hvl (or_lt hrl (less_lt (b := writesN x) hbl))
  rw [hr1] at hor2
  have H := Lib.hid h
  have hc0 := h.blk.cell 0
  have hc2 := h.blk.cell 2
  have hvc := h.lv.cell hv0
  obtain ⟨ig, ioff, rfl, hig, hic⟩ : ∃ ig ioff, a = some ⟨ig, ioff, none⟩ ∧ ig < w0.heap.size ∧ ∀ (k : Nat) (u : Value), (inVals x)[k]? = some u → w0.cell? ⟨ig, ioff + i * 5 + k, none⟩ = some u := by
    obtain ⟨a', c', e, -, hh⟩ := h.ins
    obtain ⟨rfl, -, rfl⟩ := Value.slice.inj e
    obtain ⟨ig, ioff, e1, e2, e3⟩ := hh i x hx
    exact ⟨ig, ioff, e1, e2, e3⟩
  have HIC : Hid (∀ w', RowM w0 w' g l (some ⟨ig, ioff, none⟩) c ng nc vg vc V N L → ∀ (k : Nat) (u : Value), (inVals x)[k]? = some u → w'.cell? ((⟨ig, ioff + i * 5, none⟩ : Addr).add k) = some u) := Lib.hid (fun w' hw k u hu => by
    have hadd : ((⟨ig, ioff + i * 5, none⟩ : Addr).add k) = ⟨ig, ioff + i * 5 + k, none⟩ := by unfold Addr.add; split <;> simp_all
    rw [hadd, hw.kept.cell hig (fun h => h)]
    exact hic k u hu)
  have HV0 := Lib.hid hv0
  clear hic hr1 hx hM hr hl hml hri h hv0
  generalize readsN x = rd at *
  generalize writesN x = wr at *
  generalize behN L M = bh at *
  go_enter Try.func45, Try.ntmps45
  go_wp2_with fail
  have h0 : RowM w0 w.drew g l (some ⟨ig, ioff, none⟩) c ng nc vg vc V N L := H.out.quiet ((Kept.refl _ w).drew)
  refine wp_region_mix [.w, .w, .w, .l, .w, .w, .l, .w, .w, .w, .l, .w, .w, .l, .k, .w, .w, .k, .w, .w, .w, .l, .w, .w, .l, .k, .w, .w, .w, .w, .t] (by kernel_rfl) (by kernel_rfl) (fun w' => RowM w0 w' g l (some ⟨ig, ioff, none⟩) c ng nc vg vc V N L) ?_
  repeat (refine mix_w1 ?_; go_big_quiet_step (fail); refine wpQuiet_nil ?_)
  refine mix_load1 h0 rfl 28 (.tmp 15) rfl naU16s ⟨g, 2, none⟩ (.slice (some ⟨vg, 0, none⟩) l.length vc) rfl (fun w' hw' => by have := hw'.blk.cell 2; exact this) ?_
  simp only [Act.put, List.setIfInBounds_toArray, List.set_cons_succ, List.set_cons_zero]
  repeat (refine mix_w1 ?_; go_big_quiet_step (fail); refine wpQuiet_nil ?_)
  refine mix_load1 h0 rfl 35 (.tmp 18) rfl naU16 ⟨vg, i, none⟩ (.int .u16 v0) rfl (fun w' hw' => hw'.lv.cell HV0.out) ?_
  simp only [Act.put, List.setIfInBounds_toArray, List.set_cons_succ, List.set_cons_zero]
  repeat (refine mix_w1 ?_; go_big_quiet_step (fail); refine wpQuiet_nil ?_)
  refine mix_load1 h0 rfl 27 (.tmp 22) rfl naIns ⟨g, 0, none⟩ (.slice (some ⟨ig, ioff, none⟩) l.length c) rfl (fun w' hw' => by have := hw'.blk.cell 0; exact this) ?_
  simp only [Act.put, List.setIfInBounds_toArray, List.set_cons_succ, List.set_cons_zero]
  repeat (refine mix_w1 ?_; go_big_quiet_step (fail); refine wpQuiet_nil ?_)
  refine mix_loadIn h0 rfl (.tmp 25) rfl ⟨ig, ioff + i * 5, none⟩ x rfl HIC.out ?_
  simp only [Act.put, List.setIfInBounds_toArray, List.set_cons_succ, List.set_cons_zero]
  refine mix_k h0 fun Q' hQ' => ?_
  go_wp2_with fail
  refine (HRD.out _).mono ?_
  rintro e w1 ⟨rfl, hk1⟩
  have h1 := h0.quiet hk1
  go_wp2_with fail
  refine hQ' _ _ h1 ?_
  clear hQ' Q'
  repeat (refine mix_w1 ?_; go_big_quiet_step (fail); refine wpQuiet_nil ?_)
  refine mix_k h1 fun Q' hQ' => ?_
  go_wp2_with fail
  refine (HBH.out _ h1).mono ?_
  rintro e w2 ⟨rfl, rfl⟩
  go_wp2_with fail
  refine hQ' _ _ h1 ?_
  clear hQ' Q'
  repeat (refine mix_w1 ?_; go_big_quiet_step (fail); refine wpQuiet_nil ?_)
  refine mix_load1 h1 rfl 27 (.tmp 33) rfl naIns ⟨g, 0, none⟩ (.slice (some ⟨ig, ioff, none⟩) l.length c) rfl (fun w' hw' => by have := hw'.blk.cell 0; exact this) ?_
  simp only [Act.put, List.setIfInBounds_toArray, List.set_cons_succ, List.set_cons_zero]
  repeat (refine mix_w1 ?_; go_big_quiet_step (fail); refine wpQuiet_nil ?_)
  refine mix_loadIn h1 rfl (.tmp 36) rfl ⟨ig, ioff + i * 5, none⟩ x rfl HIC.out ?_
  simp only [Act.put, List.setIfInBounds_toArray, List.set_cons_succ, List.set_cons_zero]
  refine mix_k h1 fun Q' hQ' => ?_
  go_wp2_with fail
  refine (HWR.out _).mono ?_
  rintro e w3 ⟨rfl, hk3⟩
  have h3 : RowM w0 w3 g l (some ⟨ig, ioff, none⟩) c ng nc vg vc V N L := h1.quiet (by rw [hk3]; exact (Kept.refl _ _).alloc _)
  have hK3 : Kept (fun k => k = vg) w w3 := (((Kept.refl _ w).drew.trans hk1 (fun _ _ h => h.elim)).trans (show Kept (fun _ => False) w1 w3 by rw [hk3]; exact (Kept.refl _ _).alloc _) (fun _ _ h => h.elim))
  clear hk3
  go_wp2_with fail
  refine hQ' _ _ h3 ?_
  clear hQ' Q'
  repeat (refine mix_w1 ?_; go_big_quiet_step (fail); refine wpQuiet_nil ?_)
  have hfz := h3.lv.frozen i
  have hv3 := h3.lv.cell HV0.out
  refine mix_t fun Q' hQ' => ?_
  go_wp2_with fail
  refine mix_nil ?_
  have h4 := h3.set hi r
  have h4c := h4.blk.cell 2
  have h4v := h4.lv.cell (show (L.set i r)[i]? = some r from List.getElem?_set_self (by rw [h3.llen]; exact hi))
  go_wp2_with fail
  go_ret
  exact ⟨rfl, h4, hK3.setCell (p := ⟨vg, i, none⟩) (fun _ => rfl) _⟩

end Go.Proofs.Ytopdoanfpjaehaa
