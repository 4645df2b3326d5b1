import Derived.Test.YtahabogjfcdjkaaGreatDa
import Derived.Test.YtahabogjfcdjkaaGreatRa
set_option linter.unusedSimpArgs false
set_option linter.unusedVariables false
namespace Go.Proofs.YtahabogjfcdjkaaGreat
open Go.RowKit

/-! ### the document's memory: New, Add, Live, Bytes, Set -/
noncomputable def restC : Array Value := match Tryz.prog.info? 112 with
  | some i => (match i.zero with | some (.agg cs) => cs.extract 5 cs.size | _ => #[])
  | none => #[]
theorem infoPp : (Tryz.prog.info? 103).map (fun i => (i.zero, i.size, i.bytes)) = some (some (.pointer none), 1, 8) := by kernel_rfl
theorem naParts : ∀ w, (isAgg 54).run Tryz.prog w = .ok false w := fun w => by kernel_rfl
theorem part_build (wr : Bool) (hd : Int) (A : Option Addr) (n c : Nat) (w : World) : (Instr.build 112 #[(0, .bool true), (2, .bool wr), (3, .int .i64 hd), (4, .slice A n c)]).run Tryz.prog w = .ok (.agg (#[.bool true, .bool false, .bool wr, .int .i64 hd, .slice A n c] ++ restC)) w := by kernel_rfl
theorem rmemNew_any (w : World) : Calls Tryz.prog 7 #[] w fun e w' => e = .returned (.pointer (some ⟨w.heap.size, 0, none⟩)) ∧ RMem w' w.heap.size (.slice none 0 0) [] ∧ blM w.heap.size (.slice none 0 0) [] = [w.heap.size] ∧ Kept (fun _ => False) w w' ∧ w.heap.size < w'.heap.size := by
  go_enter Tryz.func7, Tryz.ntmps7
  go_wp2
  go_ret
  exact ⟨rfl, ⟨Blk.new w _ _, Sl.nil _ _ _, by simp, by simp [blM, ob, Value.ownBlock], by simp⟩, by simp [blM, ob, Value.ownBlock], Kept.alloc (Kept.refl _ w) _, by simp⟩
theorem RMem.aCell {w : World} {p g n c : Nat} {L : List Rg} (h : RMem w p (.slice (some ⟨g, 0, none⟩) n c) L) {i : Nat} {r : Rg} (hi : L[i]? = some r) : w.cell? ⟨g, i, none⟩ = some (.pointer (some ⟨r.g, 0, none⟩)) := by
  have := h.own.cell (i := i) (c := pcl r) (by simp [hi]) (k := 0) (by omega)
  rw [Nat.mul_one, Nat.add_zero] at this
  exact this
set_option maxHeartbeats 400000 in
theorem rpart_in (p : Nat) (v : Value) (L : List Rg) (i : Nat) (w : World) (h : RMem w p v L) {r : Rg} (hi : L[i]? = some r) :
    Calls Tryz.prog 41 #[.pointer (some ⟨p, 0, none⟩), .int .i64 ((i : Int) + 1)] w fun e w' => e = .returned (.pointer (some ⟨r.g, 0, none⟩)) ∧ w = w' := by
  have hil : i < L.length := (List.getElem?_eq_some_iff.1 hi).1
  obtain ⟨g, cap, rfl, hcap, hg⟩ := h.own.some_ (by simp; omega)
  have hac := h.aCell hi
  have hb := h.blk.cell
  have hsm := h.small
  simp only [List.length_map] at hb hcap
  go_enter Tryz.func41, Tryz.ntmps41
  go_wp2
  go_ret
  exact ⟨rfl, rfl⟩
set_option maxHeartbeats 400000 in
theorem rpart_out (p : Nat) (v : Value) (L : List Rg) (id : Int) (w : World) (h : RMem w p v L) (hi : id < 1 ∨ (L.length : Int) < id) :
    Calls Tryz.prog 41 #[.pointer (some ⟨p, 0, none⟩), .int .i64 id] w fun e w' => e = .returned (.pointer none) ∧ w = w' := by
  obtain ⟨A, c, rfl⟩ := h.own.any
  have hb := h.blk.cell
  have hsm := h.small
  simp only [List.length_map] at hb
  by_cases h1 : id < 1
  · go_enter Tryz.func41, Tryz.ntmps41
    go_wp2
    go_ret
    exact ⟨rfl, rfl⟩
  · have h2 : (L.length : Int) < id := by omega
    clear hi
    go_enter Tryz.func41, Tryz.ntmps41
    go_wp2
    go_ret
    exact ⟨rfl, rfl⟩
set_option maxHeartbeats 400000 in
theorem rlive_in (p : Nat) (v : Value) (L : List Rg) (i : Nat) (w : World) (h : RMem w p v L) {r : Rg} (hi : L[i]? = some r) :
    Calls Tryz.prog 15 #[.pointer (some ⟨p, 0, none⟩), .int .i64 ((i : Int) + 1)] w fun e w' => e = .returned (.bool (!r.dead)) ∧ w = w' := by
  have hP := Lib.hid (rpart_in p v L i w h hi)
  obtain ⟨c0, c1, c2, c3, c4⟩ := (h.rg r (List.mem_of_getElem? hi)).1.cells
  generalize (!r.dead) = d at *
  go_enter Tryz.func15, Tryz.ntmps15
  go_wp2_with fail
  refine hP.out.mono ?_
  rintro e w1 ⟨rfl, rfl⟩
  go_wp2_with fail
  go_ret
  exact ⟨rfl, rfl⟩
set_option maxHeartbeats 400000 in
theorem rlive_out (p : Nat) (v : Value) (L : List Rg) (id : Int) (w : World) (h : RMem w p v L) (hi : id < 1 ∨ (L.length : Int) < id) :
    Calls Tryz.prog 15 #[.pointer (some ⟨p, 0, none⟩), .int .i64 id] w fun e w' => e = .returned (.bool false) ∧ w = w' := by
  have hP := Lib.hid (rpart_out p v L id w h hi)
  clear hi
  go_enter Tryz.func15, Tryz.ntmps15
  go_wp2_with fail
  refine hP.out.mono ?_
  rintro e w1 ⟨rfl, rfl⟩
  go_wp2_with fail
  go_ret
  exact ⟨rfl, rfl⟩
set_option maxHeartbeats 400000 in
theorem rbytes_in (p : Nat) (v : Value) (L : List Rg) (i : Nat) (w : World) (h : RMem w p v L) {r : Rg} (hi : L[i]? = some r) :
    Calls Tryz.prog 12 #[.pointer (some ⟨p, 0, none⟩), .int .i64 ((i : Int) + 1)] w fun e w' => e = .returned (.tuple #[r.bv, .bool true]) ∧ w = w' := by
  have hP := Lib.hid (rpart_in p v L i w h hi)
  obtain ⟨c0, c1, c2, c3, c4⟩ := (h.rg r (List.mem_of_getElem? hi)).1.cells
  generalize (!r.dead) = d at *
  generalize r.bv = bv at *
  go_enter Tryz.func12, Tryz.ntmps12
  go_wp2_with fail
  refine hP.out.mono ?_
  rintro e w1 ⟨rfl, rfl⟩
  go_wp2_with fail
  go_ret2
  exact ⟨rfl, rfl⟩
set_option maxHeartbeats 400000 in
theorem rbytes_out (p : Nat) (v : Value) (L : List Rg) (id : Int) (w : World) (h : RMem w p v L) (hi : id < 1 ∨ (L.length : Int) < id) :
    Calls Tryz.prog 12 #[.pointer (some ⟨p, 0, none⟩), .int .i64 id] w fun e w' => e = .returned (.tuple #[.slice none 0 0, .bool false]) ∧ w = w' := by
  have hP := Lib.hid (rpart_out p v L id w h hi)
  clear hi
  go_enter Tryz.func12, Tryz.ntmps12
  go_wp2_with fail
  refine hP.out.mono ?_
  rintro e w1 ⟨rfl, rfl⟩
  go_wp2_with fail
  go_ret2
  exact ⟨rfl, rfl⟩
set_option maxHeartbeats 1000000 in
set_option maxRecDepth 100000 in
theorem rset_in (p : Nat) (v : Value) (L : List Rg) (i at_ : Nat) (bv : Value) (l : List UInt8) (w : World) (h : RMem w p v L) {r : Rg} (hi : L[i]? = some r) (hb : By w bv l) (hle : at_ + l.length ≤ r.b.length) (hpos : 0 < r.b.length) :
    Calls Tryz.prog 57 #[.pointer (some ⟨p, 0, none⟩), .int .i64 ((i : Int) + 1), .int .i64 at_, bv] w fun e w' => e = .returned (.bool true) ∧
      RMem w' p v (L.set i { r with b := r.b.take at_ ++ l ++ r.b.drop (at_ + l.length) }) ∧ blM p v (L.set i { r with b := r.b.take at_ ++ l ++ r.b.drop (at_ + l.length) }) = blM p v L ∧ Kept (fun k => r.bv.ownBlock = some k) w w' := by
  obtain ⟨i0, hI0, hI1, hI2, hI3⟩ := info_parts infoU8
  have hm := h.rg r (List.mem_of_getElem? hi)
  have hl6 := hm.2.2
  have hnew : (r.b.take at_ ++ l ++ r.b.drop (at_ + l.length)).length = r.b.length := by simp; omega
  have hfin : ∀ w', Bs w' r.bv (r.b.take at_ ++ l ++ r.b.drop (at_ + l.length)) → Kept (fun k => r.bv.ownBlock = some k) w w' →
      RMem w' p v (L.set i { r with b := r.b.take at_ ++ l ++ r.b.drop (at_ + l.length) }) ∧ blM p v (L.set i { r with b := r.b.take at_ ++ l ++ r.b.drop (at_ + l.length) }) = blM p v L ∧ Kept (fun k => r.bv.ownBlock = some k) w w' := fun w' h1 h2 => by
    have := h.setB hi h2 h1 (by rw [hnew]; exact hl6)
    exact ⟨this.1, this.2, h2⟩
  have HF := Lib.hid hfin
  have hP := Lib.hid (rpart_in p v L i w h hi)
  clear hfin hi hnew
  obtain ⟨c0, c1, c2, c3, c4⟩ := hm.1.cells
  have hrb := hm.2.1
  obtain ⟨A, c, hbv⟩ := hb.any
  obtain ⟨g, cap, hv, hcap, hg⟩ := hm.2.1.some_ (by simpa using hpos)
  simp only [List.length_map] at hcap hv
  obtain ⟨ad, hsl, had⟩ := tailU8 g r.b.length cap at_ (by omega)
  rw [hv] at hrb c4
  subst hbv
  have hdv : (∃ A c, Value.slice (some ad) (r.b.length - at_) (cap - at_) = .slice A (r.b.length - at_) c) ∧ (at_ < r.b.length → ∃ g' cap', Value.slice (some ⟨g, 0, none⟩) r.b.length cap = .slice (some ⟨g', 0, none⟩) r.b.length cap' ∧ ∃ c, Value.slice (some ad) (r.b.length - at_) (cap - at_) = .slice (some ⟨g', at_, none⟩) (r.b.length - at_) c) :=
    ⟨⟨_, _, rfl⟩, fun h => ⟨g, cap, rfl, cap - at_, by rw [had (by omega)]⟩⟩
  have HV := Lib.hid hv
  have HDV := Lib.hid hdv
  have d1 : decide ((at_ : Int) < 0) = false := decide_eq_false (by omega)
  have d2 : decide ((at_ : Int) > (r.b.length : Int)) = false := decide_eq_false (by omega)
  have d2' : decide ((r.b.length : Int) < at_) = false := decide_eq_false (by omega)
  have d3 : decide ((l.length : Int) > (r.b.length : Int) - at_) = false := decide_eq_false (by omega)
  have d3' : decide ((r.b.length : Int) - at_ < l.length) = false := decide_eq_false (by omega)
  clear hv hdv had
  go_enter Tryz.func57, Tryz.ntmps57
  go_wp2_with (first
    | (go_at_call 41; refine hP.out.mono ?_; rintro e w1 ⟨rfl, rfl⟩)
    | (refine wpList_copyBy (w := w) rfl (.tmp 51) (.tmp 52) 39 rfl Tryz.underlying39 hI0 hI2 (.slice (some ⟨g, 0, none⟩) r.b.length cap) (.slice A l.length c) r.b l at_ _ rfl rfl hrb hb hle HDV.out ?_; intro w5 hS5 hk5))
  go_ret
  exact ⟨rfl, HF.out _ (by rw [HV.out]; exact hS5) (by rw [HV.out]; exact hk5)⟩
theorem mix_build1 {P : Program} {ops : Array Oper} {C : World → Prop} {K : Act → World → Prop} {ks : List Kd} {o : Oper} {l : List Oper} {a : Act} {w : World} (hC : C w) (hg : o.guard = none) (t : TypeId) (L : List (Nat × Operand)) (ho : o.op = .build t L.toArray) (vs : List (Nat × Value)) (hvs : (L.map fun p => (p.1, a.eval p.2)) = vs) (v : Value)
    (hr : ∀ w, (Instr.build t vs.toArray).run P w = .ok v w) (h : Mix P ops C K ks l (a.put o.dst v) w) : Mix P ops C K (.l :: ks) (o :: l) a w :=
  mix_val1 hC hg v (fun w' _ => by
    have hr2 := hr w'
    subst hvs
    have e : (L.toArray.map fun (x : Nat × Operand) => (x.1, a.eval x.2)) = (L.map fun p => (p.1, a.eval p.2)).toArray := by simp
    simp only [execOp, ho]
    simp [e, hr2, Result.andThen]) h
/-- how many bytes are hidden -/
def rhid (hid : Int) (n : Nat) : Int := max 0 (min hid n)
theorem rhid_eq (hid : Int) (n : Nat) : rhid hid n = hidOf hid n := by
  unfold rhid hidOf
  split <;> split <;> omega
set_option maxHeartbeats 1000000 in
set_option maxRecDepth 100000 in
theorem radd_any (p : Nat) (v : Value) (L : List Rg) (bv : Value) (l : List UInt8) (wr : Bool) (hid : Int) (w : World) (h : RMem w p v L) (hb : By w bv l) (hl : l.length ≤ 1000000) (hs : L.length < 100000) (h0 : 0 ≤ hid ∧ hid ≤ l.length) :
    Calls Tryz.prog 54 #[.pointer (some ⟨p, 0, none⟩), bv, .bool wr, .int .i64 hid] w fun e w' => e = .returned (.int .i64 ((L.length : Int) + 1)) ∧ ∃ v' g cv,
      RMem w' p v' (L ++ [⟨g, cv, l, wr, hidOf hid l.length, false⟩]) ∧ (∀ k ∈ blM p v' (L ++ [⟨g, cv, l, wr, hidOf hid l.length, false⟩]), k ∈ blM p v L ∨ w.heap.size ≤ k) ∧ Kept (fun k => k ∈ blM p v L) w w' := by
  obtain ⟨i0, hI0, hI1, hI2, hI3⟩ := info_parts infoPp
  obtain ⟨u0, hU0, hU1, hU2, hU3⟩ := info_parts infoU8
  obtain ⟨A, c, rfl⟩ := hb.any
  obtain ⟨A2, c2, rfl⟩ := h.own.any
  have hc0 : w.cell? ⟨p, 0, none⟩ = some (.slice A2 (L.map pcl).length c2) := h.blk.cell 0
  have hpl := h.blk.lt
  have hsm := h.small
  have hm0 : (if (l.length : Int) < hid then (l.length : Int) else hid) = hid := if_neg (by omega)
  have hm1 : (if (0 : Int) < hid then hid else 0) = hid := by split <;> omega
  have hm2 : (if hid ≤ (0 : Int) then 0 else hid) = hid := by split <;> omega
  have hH : hidOf hid l.length = hid := by unfold hidOf; split <;> split <;> omega
  have HQ := Lib.hid hH
  clear hH
  simp only [List.length_map] at h hc0 ⊢
  go_enter Tryz.func54, Tryz.ntmps54
  go_wp2_with fail
  refine wp_region_mix [.w, .w, .w, .w, .l, .w, .w, .w, .k, .l, .k, .k, .t, .w, .w, .t] (by kernel_rfl) (by kernel_rfl) (fun w' => w'.cell? ⟨p, 0, none⟩ = some (.slice A2 L.length c2)) ?_
  repeat (refine mix_w1 ?_; go_big_quiet_step (fail); refine wpQuiet_nil ?_)
  refine mix_load1 hc0 rfl 54 (.tmp 17) rfl naParts ⟨p, 0, none⟩ _ rfl (fun _ h => h) ?_
  simp only [Act.put, List.setIfInBounds_toArray, List.set_cons_succ, List.set_cons_zero]
  repeat (refine mix_w1 ?_; go_big_quiet_step (fail); refine wpQuiet_nil ?_)
  refine mix_k (by exact hc0) fun Q' hQ' => ?_
  refine wpList_appendBy (w := w.drew) rfl (.const (.slice none 0 0)) (.tmp 21) 39 rfl Tryz.underlying39 hU0 hU1 hU2 hU3 rfl (.slice none 0 0) (.slice A l.length c) [] l rfl rfl (Sl.nil _ _ _) hb.drew (by simp; omega) ?_
  intro cv w1 hO1' hk1' hv1 _
  have hO1 : Bs w1 cv l := by simpa using hO1'
  have hk1 : Kept (fun _ => False) w w1 := Kept.trans (Kept.drew (Kept.refl (fun _ => False) w)) (hk1'.mono (fun _ _ e => by simp [Value.ownBlock] at e)) (fun _ _ h => h)
  have hOb1 : ∀ g, cv.ownBlock = some g → w.heap.size ≤ g := fun g hg => by
    rcases hv1 g hg with e | e
    · simp [Value.ownBlock] at e
    · exact e
  obtain ⟨A3, c3, hcv⟩ := hO1.any
  rw [List.length_map] at hcv
  subst hcv
  clear hO1' hk1' hv1
  have hc1 : w1.cell? ⟨p, 0, none⟩ = some (.slice A2 L.length c2) := (hk1.cell (p := ⟨p, 0, none⟩) hpl (fun h => h)).trans hc0
  go_wp2_with fail
  refine hQ' _ _ hc1 ?_
  clear hQ' Q'
  obtain ⟨CS, hCS⟩ : ∃ CS, (#[.bool true, .bool false, .bool wr, .int .i64 hid, .slice A3 l.length c3] ++ restC : Array Value) = CS := ⟨_, rfl⟩
  have HCS := Lib.hid hCS
  refine mix_build1 hc1 rfl 112 _ rfl [(0, .bool true), (2, .bool wr), (3, .int .i64 hid), (4, .slice A3 l.length c3)] rfl (.agg CS) (fun w' => by rw [← hCS]; exact part_build wr hid A3 l.length c3 w') ?_
  simp only [Act.put, List.setIfInBounds_toArray, List.set_cons_succ, List.set_cons_zero]
  clear hCS
  have hO := h.own.kept hk1 (fun _ _ h => h)
  have hs1 := hk1.size
  have hpl1 : p < w1.heap.size := by omega
  refine mix_k (by exact hc1) fun Q' hQ' => ?_
  go_wp2_with fail
  refine hQ' _ _ ((World.cell?_alloc_lt _ _ _ (by exact hpl1)).trans hc1) ?_
  clear hQ' Q'
  have hc2 : (w1.alloc (.cells CS 112)).cell? ⟨p, 0, none⟩ = some (.slice A2 L.length c2) := (World.cell?_alloc_lt _ _ _ (by exact hpl1)).trans hc1
  have hOa := hO.alloc (.cells CS 112)
  have hO1a := hO1.alloc (.cells CS 112)
  have hka : Kept (fun _ => False) w (w1.alloc (.cells CS 112)) := hk1.alloc _
  have hbn := Blk.new w1 112 CS
  have hs2 : (w1.alloc (.cells CS 112)).heap.size = w1.heap.size + 1 := by simp
  generalize hw2 : w1.alloc (.cells CS 112) = w2 at *
  generalize hgn : w1.heap.size = gn at *
  clear hw2
  have hpl2 : p < w2.heap.size := by omega
  refine mix_k (by exact hc2) fun Q' hQ' => ?_
  go_wp2_with fail
  refine hQ' _ _ ((World.cell?_alloc_lt _ _ _ (by exact hpl2)).trans hc2) ?_
  clear hQ' Q'
  refine mix_t fun Q' hQ' => ?_
  go_wp2_with (at_builtin; refine wpList_push (w := w2) rfl (.tmp 18) (.tmp 25) 54 rfl Tryz.underlying54 hI0 hI1 hI2 hI3 rfl (by omega) (.slice A2 L.length c2) (L.map pcl) (pcl ⟨gn, .slice A3 l.length c3, l, wr, hid, false⟩) rfl (by rw [hs2]; rfl) hOa rfl (pcl_one _) (by simp; omega) (by omega) ?_; intro g5 cap5 w5 hS5 hk5 hg5)
  simp only [List.length_map] at hS5
  have hpg5 : p ≠ g5 := fun e => by
    subst e
    rcases hg5 with e | e
    · have hn := h.nod
      unfold blM at hn
      exact (List.nodup_cons.1 hn).1 (List.mem_append_left _ (mem_ob.2 e))
    · omega
  have hpn : (Value.slice A2 L.length c2).ownBlock ≠ some p := fun e => by
    have hn := h.nod
    unfold blM at hn
    exact (List.nodup_cons.1 hn).1 (List.mem_append_left _ (mem_ob.2 e))
  have hblk5 : Blk w5 p 56 #[.slice A2 L.length c2] := hk5.blk hpn (hka.blk (fun h => h) h.blk)
  have hc5 := hblk5.cell
  have hf5 := hblk5.frozen
  repeat (refine mix_w1 ?_; go_big_quiet_step (fail); refine wpQuiet_nil ?_)
  refine mix_t fun Q' hQ' => ?_
  go_wp2
  refine mix_done ?_
  have hblk6 := hblk5.set_ 0 (.slice (some ⟨g5, 0, none⟩) (L.length + 1) cap5)
  have hk6 : Kept (fun k => k = p) w5 (w5.setCell ⟨p, 0, none⟩ (.slice (some ⟨g5, 0, none⟩) (L.length + 1) cap5)) := Kept.setCell (F := fun k => k = p) (Kept.refl _ w5) (fun _ => rfl) _
  have hS6 := hS5.kept hk6 (fun g' hg' e => by simp only [Value.ownBlock, Option.some.injEq] at hg'; omega)
  have hcv5 : ∀ g, (Value.slice A3 l.length c3).ownBlock = some g → w.heap.size ≤ g ∧ g < gn := fun g hg => ⟨hOb1 g hg, by have := hO1.lt g hg; omega⟩
  have hO6 : Bs (w5.setCell ⟨p, 0, none⟩ (.slice (some ⟨g5, 0, none⟩) (L.length + 1) cap5)) (.slice A3 l.length c3) l := (hO1a.kept hk5 (fun g hg e => by
    have := hcv5 g hg
    have := h.own.lt g e
    omega)).kept hk6 (fun g hg e => by have := hcv5 g hg; omega)
  have hb6 : Blk (w5.setCell ⟨p, 0, none⟩ (.slice (some ⟨g5, 0, none⟩) (L.length + 1) cap5)) gn 112 CS := hk6.blk (by omega) (hk5.blk (fun e => by have := h.own.lt _ e; omega) hbn)
  have hp6 : IsPart (w5.setCell ⟨p, 0, none⟩ (.slice (some ⟨g5, 0, none⟩) (L.length + 1) cap5)) ⟨gn, .slice A3 l.length c3, l, wr, hid, false⟩ := ⟨restC, by rw [← HCS.out] at hb6; exact hb6⟩
  have hkall : Kept (fun k => k = p ∨ (Value.slice A2 L.length c2).ownBlock = some k) w (w5.setCell ⟨p, 0, none⟩ (.slice (some ⟨g5, 0, none⟩) (L.length + 1) cap5)) :=
    ((hka.mono (fun k _ e => e.elim)).trans hk5 (fun k _ e => .inr e)).trans hk6 (fun k _ e => .inl e)
  have hadd := h.add (r := ⟨gn, .slice A3 l.length c3, l, wr, hid, false⟩) hkall hblk6 (by simpa using hS6) ⟨hp6, hO6, hl⟩ (fun g hg => by
    simp only [Value.ownBlock, Option.some.injEq] at hg
    subst hg
    rcases hg5 with e | e
    · exact .inl e
    · refine .inr ⟨by omega, by show g5 ≠ gn; omega, fun e2 => ?_⟩
      have := hcv5 g5 e2
      omega) (by show w.heap.size ≤ gn; omega) (fun g hg => ⟨(hcv5 g hg).1, by have := (hcv5 g hg).2; show g ≠ gn; omega⟩) hs
  have HADD := Lib.hid hadd
  have hfin : Kept (fun k => k ∈ blM p (.slice A2 L.length c2) L) w (w5.setCell ⟨p, 0, none⟩ (.slice (some ⟨g5, 0, none⟩) (L.length + 1) cap5)) := hkall.mono (fun k _ e => by
    unfold blM
    rcases e with rfl | e
    · exact List.mem_cons_self ..
    · exact List.mem_cons_of_mem _ (List.mem_append_left _ (mem_ob.2 e)))
  have hc6 := hblk6.cell
  simp only [List.setIfInBounds_toArray, List.set_cons_zero] at hc6
  clear hadd hkall hb6 hp6 hO6 hS6 hk6 hblk6 hc5 hf5 hblk5 hbn
  generalize w5.setCell ⟨p, 0, none⟩ (.slice (some ⟨g5, 0, none⟩) (L.length + 1) cap5) = w6 at *
  go_wp2_with fail
  go_ret
  refine ⟨rfl, .slice (some ⟨g5, 0, none⟩) (L.length + 1) cap5, gn, .slice A3 l.length c3, ?_⟩
  rw [HQ.out]
  exact ⟨HADD.out.1, HADD.out.2, hfin⟩

end Go.Proofs.YtahabogjfcdjkaaGreat
