import Derived.Test.YtmgdjiplpfeoiaaDoorTs
import Derived.Outline
import Derived.Deep.LoopGhost
import Derived.OwnWalk
set_option linter.unusedSimpArgs false
set_option linter.unusedVariables false
namespace Go.Proofs.YtmgdjiplpfeoiaaDoor
open Go.RowKit

/-! ### rows of integers, and of truths, that a call owns -/
def tcell (b : Bool) : List Value := [.bool b]
abbrev Ints (w : World) (v : Value) (L : List Int) : Prop := Sl w 3 1 v (L.map icell')
abbrev Bls (w : World) (v : Value) (B : List Bool) : Prop := Sl w 4 1 v (B.map tcell)
theorem infoB : (Tryd.prog.info? 4).map (fun i => (i.zero, i.size, i.bytes)) = some (some (.bool false), 1, 1) := by kernel_rfl
theorem ints_flat (L : List Int) : (L.map icell').flatten = L.map (.int .i64) := by
  induction L with
  | nil => rfl
  | cons x r ih => simp only [List.map_cons, List.flatten_cons, ih]; rfl
theorem Ints.cell {w : World} {g n cap : Nat} {L : List Int} (h : Ints w (.slice (some ⟨g, 0, none⟩) n cap) L) {i : Nat} {x : Int} (hi : L[i]? = some x) : w.cell? ⟨g, i, none⟩ = some (.int .i64 x) := by
  have := Sl.cell h (i := i) (c := icell' x) (by rw [List.getElem?_map, hi]; rfl) (k := 0) (by omega)
  simpa [icell'] using this
theorem Bls.cell {w : World} {g n cap : Nat} {L : List Bool} (h : Bls w (.slice (some ⟨g, 0, none⟩) n cap) L) {i : Nat} {x : Bool} (hi : L[i]? = some x) : w.cell? ⟨g, i, none⟩ = some (.bool x) := by
  have := Sl.cell h (i := i) (c := tcell x) (by rw [List.getElem?_map, hi]; rfl) (k := 0) (by omega)
  simpa [tcell] using this
theorem Ints.set {w : World} {g n cap : Nat} {L : List Int} (h : Ints w (.slice (some ⟨g, 0, none⟩) n cap) L) {i : Nat} (hi : i < L.length) (x : Int) : Ints (w.setCell ⟨g, i, none⟩ (.int .i64 x)) (.slice (some ⟨g, 0, none⟩) n cap) (L.set i x) := by
  have := Sl.setCell h (i := i) (c := icell' L[i]) (by rw [List.getElem?_map, List.getElem?_eq_getElem hi]; rfl) (k := 0) (by omega) (.int .i64 x)
  simp only [icell', List.set_cons_zero, Nat.mul_one, Nat.add_zero] at this
  unfold Ints
  rw [List.map_set]
  exact this
theorem Bls.set {w : World} {g n cap : Nat} {L : List Bool} (h : Bls w (.slice (some ⟨g, 0, none⟩) n cap) L) {i : Nat} (hi : i < L.length) (x : Bool) : Bls (w.setCell ⟨g, i, none⟩ (.bool x)) (.slice (some ⟨g, 0, none⟩) n cap) (L.set i x) := by
  have := Sl.setCell h (i := i) (c := tcell L[i]) (by rw [List.getElem?_map, List.getElem?_eq_getElem hi]; rfl) (k := 0) (by omega) (.bool x)
  simp only [tcell, List.set_cons_zero, Nat.mul_one, Nat.add_zero] at this
  unfold Bls
  rw [List.map_set]
  exact this
theorem Ints.lt {w : World} {g n cap : Nat} {L : List Int} (h : Ints w (.slice (some ⟨g, 0, none⟩) n cap) L) : g < w.heap.size := Sl.lt h g rfl
theorem Ints.pop {w : World} {g n cap : Nat} {L : List Int} {x : Int} (h : Ints w (.slice (some ⟨g, 0, none⟩) n cap) (L ++ [x])) : Ints w (.slice (some ⟨g, 0, none⟩) L.length cap) L := by
  unfold Ints at h
  rw [List.map_append] at h
  have := Sl.pre (c := icell' x) h
  simpa using this

section
variable {P : Program} {w : World} {ops : Array Oper} {rest : List Oper} {o : Oper} {a : Act} {Q : Exit → Act → World → Prop}
/-- 'make([]T, n)', T of one cell -/
theorem wpList_makeSl (hgd : o.guard = none) (l c : Operand) (t : TypeId) (hop : o.op = Op.makeSlice t l c) {E : TypeId}
    {i0 : TypeInfo} (z : Value) (hz1 : z.cells = #[z]) {by_ : Nat} (ht : P.underlying t = some (.slice E)) (hi : P.info? E = some i0) (hz : i0.zero = some z) (hsz : i0.size = 1) (hby : i0.bytes = by_) (hb8 : by_ ≤ 8)
    (n : Nat) (hl : a.eval l = .int .i64 n) (hc : a.eval c = .int .i64 n) (hn : n ≤ 1099511627776)
    (hK : ∀ w', Sl w' E 1 (.slice (some ⟨w.heap.size, 0, none⟩) n n) (List.replicate n [z]) → Kept (fun _ => False) w w' → wpList P ops Q rest (a.put o.dst (.slice (some ⟨w.heap.size, 0, none⟩) n n)) w') : wpList P ops Q (o :: rest) a w := by
  refine wpList_make_full w hgd l c t hop 0 E i0 z 1 ht hi hz hsz .i64 .i64 n n n hl hc rfl rfl ?_ (by unfold maxLen; omega) (Nat.zero_le _) ?_
  · rw [hby]
    exact Nat.le_trans (Nat.mul_le_mul hb8 hn) (by omega)
  intro w' h1 h2
  refine hK w' ⟨fun d hd => ?_, ?_⟩ (Kept.of_grown (Kept.refl _ w) h2 (fun k hk _ => by cases hk))
  · rw [(List.mem_replicate.1 hd).2]; rfl
  · have e : (madeCells z.cells (n * 1)).toList = (List.replicate n [z]).flatten := by
      rw [Nat.mul_one, hz1]
      apply List.ext_getElem
      · simp [madeCells]
      · intro i h3 h4
        simp [madeCells, Nat.mod_one]
    rw [e] at h1
    rw [List.length_replicate]
    exact h1
/-- 'append(s, x...)', integers behind integers -/
theorem wpList_appendI (hgd : o.guard = none) (s x : Operand) (t : TypeId) (ho : o.op = .call { callee := .builtin .append, args := #[s, x], argTypes := #[t, t] })
    {i0 : TypeInfo} {z : Value} (ht : P.underlying t = some (.slice 3)) (hi : P.info? 3 = some i0) (hz : i0.zero = some z) (hsz : i0.size = 1) (hby : i0.bytes = 8) (hzs : z.cells.size = 1)
    (v xv : Value) (B L : List Int) (hs : a.eval s = v) (hx : a.eval x = xv) (h : Ints w v B) (hb : Ints w xv L) (hlen : B.length + L.length < 1099511627)
    (hK : ∀ v' w', Ints w' v' (B ++ L) → Kept (fun k => v.ownBlock = some k) w w' → (∀ g, v'.ownBlock = some g → v.ownBlock = some g ∨ w.heap.size ≤ g) → wpList P ops Q rest (a.put o.dst v') w') :
    wpList P ops Q (o :: rest) a w := by
  by_cases hL : L = []
  · subst hL
    have hr : (Builtin.append_ #[t, t] o.type #[v, xv]).run P w = .ok v w := by
      have hxv : ∃ A c, xv = .slice A 0 c := by
        obtain ⟨A, c, hv⟩ := Sl.any hb
        exact ⟨A, c, hv⟩
      obtain ⟨A, c, rfl⟩ := hxv
      obtain ⟨A', c', rfl⟩ := Sl.any h
      cases A' <;> cases A <;> simp [Builtin.append_, run_underlying ht, sizeOf, typeInfo, hi, Builtin.lenOf, Builtin.firstCells, loadCells, loadCellsFrom, storeCells]
      all_goals
        rcases Sl.shape h with ⟨hv, hB⟩ | ⟨g, cap, hv, hc, _⟩
        · simp at hv
          try simp [hv]
        · simp at hv
          try (obtain ⟨rfl, rfl⟩ := hv)
          try simp at hc
          try omega
    refine wpList_plain hgd fun K hKK => ?_
    unfold Oper.wp
    simp [execOp, ho, resolve, invoke, builtin, hs, hx, hr, Result.andThen]
    exact hKK _ _ (hK v w (by simpa using h) (Kept.refl _ w) (fun g hg => .inl hg))
  · have hpos : 0 < L.length := List.length_pos_iff.2 hL
    obtain ⟨b, c, rfl, hlc, hbl⟩ := Sl.some_ hb (by simpa using hpos)
    rw [List.length_map] at *
    have hd := h.2
    rw [ints_flat, List.length_map] at hd
    refine wpList_append_lies _ hgd s x t ho 0 3 i0 z 1 8 ht hi hz hsz hby hzs (by omega) v B.length (B.map (.int .i64)) hs hd ⟨b, 0, none⟩ L.length c (L.map (.int .i64)) hx (by simp)
      (fun j u hu => ?_) (fun u hu => ?_) hpos (by unfold maxLen; omega) (by omega) (Nat.zero_le _) w.heap.size rfl ?_
    · rw [List.getElem?_map] at hu
      obtain ⟨x, hx1, hx2⟩ := Option.map_eq_some_iff.1 hu
      have := Ints.cell hb hx1
      rw [add_n, Nat.zero_add, ← hx2]
      exact this
    · obtain ⟨x, _, rfl⟩ := List.mem_map.1 hu
      rfl
    · intro g cap w' h2 h3 h4 h5
      refine hK _ w' ⟨fun d hd => ?_, ?_⟩ (Kept.of_grown (Kept.refl _ w) h3 (fun k hk _ => hk)) ?_
      · obtain ⟨u, _, rfl⟩ := List.mem_map.1 hd; rfl
      · rw [ints_flat, List.length_map, List.length_append, List.map_append]
        exact h2
      · intro g' hg'
        simp only [Value.ownBlock, Option.some.injEq] at hg'
        subst hg'
        rcases h4 with h4 | rfl
        · exact .inl h4
        · exact .inr (Nat.le_refl _)
end

set_option maxHeartbeats 1000000 in
theorem refthrough_any (l : List Ty) (a : Option Addr) (c : Nat) (i : Nat) (w : World) (h : Tys w (.slice a l.length c) l) (hg : Good l) (hi : i < l.length) :
    Calls Tryd.prog 29 #[.slice a l.length c, .int .i64 ((i : Int) + 1)] w fun e w' => e = .returned (.int .i64 (throughL l ((i : Int) + 1))) ∧ w = w' := by
  have h256 := hg.fit.len
  have hcl := hg.closed
  have hac := hg.acyc
  go_enter Tryd.func29, Tryd.ntmps29
  go_wp2
  go_loopw [1] (fun iv wr => ∃ k : Nat, iv = .int .i64 ((k : Int) + 1) ∧ k < l.length ∧ throughL l ((k : Int) + 1) = throughL l ((i : Int) + 1) ∧ w = wr) (fun iv _ => rk l (intOf iv))
  case atStart => exact ⟨i, rfl, hi, rfl, rfl⟩
  case round =>
    obtain ⟨k, rfl, hk, hth, rfl⟩ := hrel
    obtain ⟨t, ht⟩ : ∃ t, l[k]? = some t := ⟨_, List.getElem?_eq_getElem hk⟩
    obtain ⟨g, off, mv, rfl, hgl, hm, c0, c1, c2, c3, c4, c5, c6⟩ := h.at_ ht
    have hta := get_tyAt ht
    by_cases h5 : t.kind = 5
    · have hs := hcl _ _ (alias_succ hta h5)
      have hr := rk_lt hcl hac (alias_succ hta h5)
      have hst := through_alias hcl hac hta h5
      obtain ⟨k', hk'⟩ : ∃ k' : Nat, t.to = (k' : Int) + 1 := ⟨(t.to - 1).toNat, by omega⟩
      have HK := Lib.hid hk'
      have e5 : (t.kind == 5) = true := by simpa using h5
      clear h5 hk'
      go_wp2
      exact ⟨⟨k', by rw [HK.out], by have := HK.out; omega, by rw [← HK.out, ← hst]; exact hth, trivial⟩, by simpa [intOf] using hr⟩
    · have e5 : (t.kind == 5) = false := by simpa using h5
      have hst := through_stop hta h5
      clear h5
      go_wp2
      go_ret
      exact ⟨by rw [← hth, hst]; rfl, rfl⟩

set_option maxHeartbeats 2000000 in
set_option maxRecDepth 100000 in
theorem refholds_any (t : Ty) (ma : Option Addr) (mc : Nat) (w : World) (hm : Mbs w (.slice ma t.mem.length mc) t.mem) (h64 : t.mem.length ≤ 64) :
    Calls Tryd.prog 62 #[.agg (tyVals t (.slice ma t.mem.length mc))] w fun e w' => ∃ ov, e = .returned ov ∧ Ints w' ov (holdsL t) ∧ (∀ g, ov.ownBlock = some g → w.heap.size ≤ g) ∧ Kept (fun _ => False) w w' := by
  obtain ⟨kind, name, size, signed, too, count, mem⟩ := t
  obtain ⟨i0, hI0, hI1, hI2, hI3⟩ := info_parts infoI
  simp only at hm h64
  unfold holdsL
  simp only
  by_cases h5 : kind = 5 ∨ kind = 3
  · rw [if_pos h5]
    rcases h5 with rfl | rfl
    all_goals
      go_enter Tryd.func62, Tryd.ntmps62
      go_wp2_with (at_builtin; refine wpList_push (w := w.alloc _) rfl (.tmp 10) (.tmp 13) 64 rfl Tryd.underlying64 hI0 hI1 hI2 hI3 rfl (by omega) (.slice none 0 0) [] (icell' too) rfl (by rw [alloc_size]; rfl) (Sl.nil _ _ _) rfl (by simp [icell', Value.oneCell']) (by simp) (by omega) ?_; intro g5 cap5 w5 hS5 hk5 hg5)
      go_ret
      refine ⟨.slice (some ⟨g5, 0, none⟩) 1 cap5, rfl, hS5, fun g hg => ?_, ((Kept.refl _ w).alloc _).trans hk5 (fun k hk e => by simp [Value.ownBlock] at e)⟩
      obtain rfl : g5 = g := by simpa [Value.ownBlock] using hg
      rcases hg5 with e | e
      · simp [Value.ownBlock] at e
      · simp at e; omega
  · rw [if_neg h5]
    by_cases h4 : kind = 4
    · rw [if_pos h4]
      subst h4
      go_enter Tryd.func62, Tryd.ntmps62
      go_wp2
      have hBt := Blk.new w 38 (tyVals ⟨4, name, size, signed, too, count, mem⟩ (.slice ma mem.length mc))
      go_loopw [4, 3] (fun iv ov wr => ∃ i : Nat, iv = .int .i64 i ∧ i ≤ mem.length ∧ Ints wr ov ((mem.map Mb.type).take i) ∧ (∀ g, ov.ownBlock = some g → w.heap.size + 1 ≤ g) ∧ Blk wr w.heap.size 38 (tyVals ⟨4, name, size, signed, too, count, mem⟩ (.slice ma mem.length mc)) ∧ Kept (fun _ => False) w wr) (fun iv _ _ => mem.length - (intOf iv).toNat)
      case atStart => exact ⟨0, rfl, Nat.zero_le _, Sl.nil _ _ _, by simp [Value.ownBlock], hBt, (Kept.refl _ w).alloc _⟩
      case round =>
        clear hBt
        obtain ⟨i, rfl, hi, hS, hown, hb, hK⟩ := hrel
        have b6 : wr.cell? ⟨w.heap.size, 6, none⟩ = some (.slice ma mem.length mc) := hb.cell 6
        have hlw := hb.lt
        by_cases hlt : i < mem.length
        case neg =>
          obtain rfl : i = mem.length := by omega
          rw [List.take_of_length_le (by simp)] at hS
          go_wp2
          go_ret
          exact ⟨_, rfl, hS, fun g hg => by have := hown g hg; omega, hK⟩
        case pos =>
          obtain ⟨m, hmi⟩ : ∃ m, mem[i]? = some m := ⟨_, List.getElem?_eq_getElem hlt⟩
          obtain ⟨g, off, rfl, hg, c0, c1, c2⟩ := (hm.kept hK).at_ hmi
          have hlen : (((mem.map Mb.type).take i).map icell').length = i := by simp; omega
          obtain ⟨oA, oC, hov⟩ := Sl.any hS
          rw [hlen] at hov
          subst hov
          have HL := Lib.hid hlen
          clear hlen
          go_wp2_with (at_builtin; refine wpList_push (w := wr) rfl (.tmp 24) (.tmp 31) 64 rfl Tryd.underlying64 hI0 hI1 hI2 hI3 rfl (by omega) (.slice oA i oC) (((mem.map Mb.type).take i).map icell') (icell' m.type) rfl rfl hS rfl (by simp [icell', Value.oneCell']) (by rw [HL.out]; omega) (by omega) ?_; intro g5 cap5 w5 hS5 hk5 hg5; rw [HL.out] at hS5 ⊢)
          have hK5 : Kept (fun _ => False) w w5 := hK.trans hk5 (fun k hk e => by have := hown k e; omega)
          have hb5 : Blk w5 w.heap.size 38 (tyVals ⟨4, name, size, signed, too, count, mem⟩ (.slice (some ⟨g, off, none⟩) mem.length mc)) := hk5.blk (fun e => by have := hown _ e; omega) hb
          have htk : (mem.map Mb.type).take (i + 1) = (mem.map Mb.type).take i ++ [m.type] := by
            rw [List.take_add_one]
            simp [hmi]
          refine ⟨⟨i + 1, by go_num, by omega, by rw [htk]; unfold Ints; rw [List.map_append]; exact hS5, fun g' hg' => ?_, hb5, hK5⟩, by simp [intOf]; omega⟩
          simp only [Value.ownBlock, Option.some.injEq] at hg'
          subst hg'
          rcases hg5 with e | e
          · exact hown _ e
          · omega
    · rw [if_neg h4]
      have e5 : (kind == 5) = false := by simp; omega
      have e3 : (kind == 3) = false := by simp; omega
      have e4 : (kind == 4) = false := by simpa using h4
      clear h5 h4
      go_enter Tryd.func62, Tryd.ntmps62
      go_wp2
      go_ret
      exact ⟨_, rfl, Sl.nil _ _ _, by simp [Value.ownBlock], (Kept.refl _ w).alloc _⟩

theorem cutI (g o n c i : Nat) (hi : i ≤ c) (w : World) : (Instr.sliceAt 64 (.slice (some ⟨g, o, none⟩) n c) none (some (.int .i64 i)) none).run Tryd.prog w = .ok (.slice (some ⟨g, o, none⟩) i c) w := by
  obtain ⟨i0, hI0, hI1, hI2, hI3⟩ := info_parts infoI
  simp [Instr.sliceAt, Instr.slice, run_underlying Tryd.underlying64, Instr.sliceBounds, run_sliceBound, sizeOf, typeInfo, hI0, hi, add_n]

/-! ### does a type hold itself? -/
/-- what the search knows: what it has seen, what waits -/
structure Wait (l : List Ty) (id : Int) (B : List Bool) (W : List Int) : Prop where
  len : B.length = l.length + 1
  wait : ∀ k ∈ W, Reach l id k
  seen : ∀ k : Nat, B[k]? = some true → Reach l id k ∧ (k : Int) ≠ id
  first : ∀ b ∈ succL l id, b ∈ W ∨ B[b.toNat]? = some true
  next : ∀ k : Nat, B[k]? = some true → ∀ b ∈ succL l k, b ∈ W ∨ B[b.toNat]? = some true
theorem reach_rng {l : List Ty} (hc : Closed l) {x y : Int} (h : Reach l x y) : 1 ≤ y ∧ y ≤ (l.length : Int) := by
  induction h with
  | one h => exact hc _ _ h
  | more _ _ ih => exact ih
theorem Wait.done {l : List Ty} {id : Int} {B : List Bool} (hc : Closed l) (h : Wait l id B []) : ¬ Reach l id id := by
  have hn : ∀ {x y : Int}, Reach l x y → (∀ b ∈ succL l x, B[b.toNat]? = some true) → B[y.toNat]? = some true := by
    intro x y hR
    induction hR with
    | one hb => exact fun hs => hs _ hb
    | more hb _ ih =>
      intro hs
      have h1 := hs _ hb
      refine ih fun c hc' => ?_
      obtain ⟨r1, r2⟩ := hc _ _ hb
      rcases h.next _ h1 c (by rw [Int.toNat_of_nonneg (by omega)]; exact hc') with e | e
      · cases e
      · exact e
  intro hR
  have h1 := hn hR fun b hb => by
    rcases h.first b hb with e | e
    · cases e
    · exact e
  have h2 : 1 ≤ id := (reach_rng hc hR).1
  have := (h.seen _ h1).2
  rw [Int.toNat_of_nonneg (by omega)] at this
  exact this rfl
theorem Wait.start {l : List Ty} {id : Int} : Wait l id (List.replicate (l.length + 1) false) (succL l id) where
  len := by simp
  wait := fun k hk => .one hk
  seen := fun k hk => by
    have := List.mem_of_getElem? hk
    simp at this
  first := fun b hb => .inl hb
  next := fun k hk => by
    have := List.mem_of_getElem? hk
    simp at this
theorem Wait.old {l : List Ty} {id k : Int} {B : List Bool} {W : List Int} (h : Wait l id B (W ++ [k])) (hs : B[k.toNat]? = some true) : Wait l id B W where
  len := h.len
  wait := fun x hx => h.wait x (List.mem_append_left _ hx)
  seen := h.seen
  first := fun b hb => by
    rcases h.first b hb with e | e
    · rcases List.mem_append.1 e with e | e
      · exact .inl e
      · rw [List.mem_singleton.1 e]; exact .inr hs
    · exact .inr e
  next := fun x hx b hb => by
    rcases h.next x hx b hb with e | e
    · rcases List.mem_append.1 e with e | e
      · exact .inl e
      · rw [List.mem_singleton.1 e]; exact .inr hs
    · exact .inr e
theorem Wait.new {l : List Ty} {id k : Int} {B : List Bool} {W : List Int} (h : Wait l id B (W ++ [k])) (hk0 : 0 ≤ k) (hk : k ≠ id) (hkB : k.toNat < B.length) : Wait l id (B.set k.toNat true) (W ++ succL l k) := by
  have hkt : ((k.toNat : Nat) : Int) = k := Int.toNat_of_nonneg hk0
  have hR := h.wait k (by simp)
  have hset : ∀ x : Nat, (B.set k.toNat true)[x]? = some true ↔ (x = k.toNat ∨ B[x]? = some true) := fun x => by
    rw [List.getElem?_set]
    by_cases e : k.toNat = x
    · subst e; simp [hkB]
    · rw [if_neg e]
      constructor
      · exact fun h => .inr h
      · rintro (h | h)
        · exact absurd h.symm e
        · exact h
  refine ⟨by simpa using h.len, fun x hx => ?_, fun x hx => ?_, fun b hb => ?_, fun x hx b hb => ?_⟩
  · rcases List.mem_append.1 hx with hx | hx
    · exact h.wait x (List.mem_append_left _ hx)
    · exact hR.trans (.one hx)
  · rcases (hset x).1 hx with rfl | hx
    · rw [hkt]; exact ⟨hR, hk⟩
    · exact h.seen x hx
  · rcases h.first b hb with e | e
    · rcases List.mem_append.1 e with e | e
      · exact .inl (List.mem_append_left _ e)
      · rw [List.mem_singleton.1 e]; exact .inr ((hset _).2 (.inl rfl))
    · exact .inr ((hset _).2 (.inr e))
  · rcases (hset x).1 hx with rfl | hx
    · rw [hkt] at hb
      exact .inl (List.mem_append_right _ hb)
    · rcases h.next x hx b hb with e | e
      · rcases List.mem_append.1 e with e | e
        · exact .inl (List.mem_append_left _ e)
        · rw [List.mem_singleton.1 e]; exact .inr ((hset _).2 (.inl rfl))
      · exact .inr ((hset _).2 (.inr e))
theorem count_set {B : List Bool} {k : Nat} (h : B[k]? = some false) : (B.set k true).count false + 1 = B.count false := by
  induction B generalizing k with
  | nil => simp at h
  | cons x r ih =>
    cases k with
    | zero =>
      simp at h
      subst h
      simp
    | succ k =>
      simp at h
      have := ih h
      simp only [List.set_cons_succ, List.count_cons]
      omega

set_option maxHeartbeats 4000000 in
set_option maxRecDepth 100000 in
theorem itself_any (l : List Ty) (a : Option Addr) (c : Nat) (i : Nat) (w : World) (h : Tys w (.slice a l.length c) l) (hf : Fit l) (hcl : Closed l) (hi : i < l.length) :
    Calls Tryd.prog 61 #[.slice a l.length c, .int .i64 ((i : Int) + 1)] w fun e w' => ∃ r, e = .returned (.bool r) ∧ (r = true ↔ Reach l ((i : Int) + 1) ((i : Int) + 1)) ∧ Kept (fun _ => False) w w' := by
  have h256 := hf.len
  obtain ⟨t, ht⟩ : ∃ t, l[i]? = some t := ⟨_, List.getElem?_eq_getElem hi⟩
  have h64 := hf.mem t (List.mem_of_getElem? ht)
  obtain ⟨i0, hI0, hI1, hI2, hI3⟩ := info_parts infoI
  obtain ⟨j0, hJ0, hJ1, hJ2, hJ3⟩ := info_parts infoB
  have hsu : succL l ((i : Int) + 1) = holdsL t := by unfold succL; rw [get_tyAt ht]
  have hle : ∀ u ∈ l, (holdsL u).length ≤ 64 := fun u hu => by
    unfold holdsL
    split
    · simp
    · split
      · simpa using hf.mem u hu
      · simp
  have hht := hle t (List.mem_of_getElem? ht)
  have HT := Lib.hid ht
  have HSU := Lib.hid hsu
  have HLE := Lib.hid hle
  clear ht hsu hle
  go_enter Tryd.func61, Tryd.ntmps61
  go_wp2_with (refine wpList_makeSl (w := w) rfl (.tmp 10) (.tmp 10) 104 rfl (.bool false) rfl Tryd.underlying104 hJ0 hJ1 hJ2 hJ3 (by omega) (l.length + 1) (by simp [Act.eval]) (by simp [Act.eval]) (by omega) ?_; intro w1 hB1 hk1; obtain ⟨g, off, mv, rfl, hgl, hm, c0, c1, c2, c3, c4, c5, c6⟩ := (h.kept hk1).at_ HT.out; obtain ⟨ma, mc, rfl⟩ := hm.any)
  refine (refholds_any t ma mc w1 hm h64).mono ?_
  rintro e w2 ⟨ov, rfl, hW2, hown2, hk2⟩
  have hB2 : Bls w2 (.slice (some ⟨w.heap.size, 0, none⟩) (l.length + 1) (l.length + 1)) (List.replicate (l.length + 1) false) := by
    have := Sl.kept hk2 hB1 (fun _ _ h => h)
    unfold Bls
    rw [List.map_replicate]
    exact this
  have hK2 := hk1.trans hk2 (fun _ _ h => h)
  have hsz1 := hk1.size
  have hlt1 := hB1.lt _ rfl
  clear c0 c1 c2 c3 c4 c5 c6
  go_wp2_with fail
  go_loopg [6] (65 * (l.length + 1) + (holdsL t).length) (fun k wv wr => ∃ (B : List Bool) (W : List Int), Wait l ((i : Int) + 1) B W ∧ Ints wr wv W ∧ (∀ g, wv.ownBlock = some g → w.heap.size < g) ∧ Bls wr (.slice (some ⟨w.heap.size, 0, none⟩) (l.length + 1) (l.length + 1)) B ∧ Kept (fun _ => False) w wr ∧ 65 * B.count false + W.length ≤ k ∧ k ≤ 100000)
  case atStart => exact ⟨_, _, HSU.out ▸ Wait.start, hW2, fun g hg => by have := hown2 g hg; omega, hB2, hK2, by rw [List.count_replicate_self]; omega, by omega⟩
  case round =>
    clear hB2 hK2 hW2 hown2 hB1 hk1 hk2 hm hgl h64
    obtain ⟨B, W, hwt, hW, hown, hB, hK, hgk, hgb⟩ := hrel
    rcases List.eq_nil_or_concat W with rfl | ⟨W0, k, rfl⟩
    · have hno := hwt.done hcl
      obtain ⟨oA, oC, hov⟩ := Sl.any hW
      simp only [List.map_nil, List.length_nil] at hov
      subst hov
      have HNO := Lib.hid hno
      clear hno
      go_wp2_with fail
      go_ret
      exact ⟨false, rfl, ⟨fun h => absurd h (by simp), fun h => absurd h HNO.out⟩, hK⟩
    · rw [List.concat_eq_append] at *
      have hR := hwt.wait k (by simp)
      obtain ⟨hk1, hk2⟩ := reach_rng hcl hR
      obtain ⟨j, rfl⟩ : ∃ j : Nat, k = (j : Int) + 1 := ⟨(k - 1).toNat, by omega⟩
      have hjl : j < l.length := by omega
      obtain ⟨u, hu⟩ : ∃ u, l[j]? = some u := ⟨_, List.getElem?_eq_getElem hjl⟩
      obtain ⟨wg, cap, rfl, hcap, hwl⟩ := Sl.some_ hW (by simp)
      have hne : w.heap.size < wg := hown wg rfl
      have hlw : (List.map icell' (W0 ++ [(j : Int) + 1])).length = W0.length + 1 := by simp
      rw [hlw] at hW hcap ⊢
      have hwc := Ints.cell hW (i := W0.length) (x := (j : Int) + 1) (by simp)
      have hW0 := Ints.pop hW
      have hcut := cutI wg 0 (W0.length + 1) cap W0.length (by omega)
      have hBl := hwt.len
      have hgb2 : W0.length ≤ 100000 := by simp at hgk; omega
      obtain ⟨b, hb⟩ : ∃ b, B[j + 1]? = some b := ⟨_, List.getElem?_eq_getElem (by omega)⟩
      have hbc := Bls.cell hB hb
      have hwt0 : b = true → Wait l ((i : Int) + 1) B W0 := fun e => hwt.old (k := (j : Int) + 1) (by rw [show ((j : Int) + 1).toNat = j + 1 by omega, hb, e])
      have hwt1 : (j : Int) + 1 ≠ (i : Int) + 1 → Wait l ((i : Int) + 1) (B.set (j + 1) true) (W0 ++ holdsL u) := fun e => by
        have := hwt.new (by omega) e (by omega)
        rw [show ((j : Int) + 1).toNat = j + 1 by omega] at this
        unfold succL at this
        rw [get_tyAt hu] at this
        exact this
      have hct : b = false → (B.set (j + 1) true).count false + 1 = B.count false := fun e => count_set (by rw [hb, e])
      have HW0 := Lib.hid hwt0
      have HW1 := Lib.hid hwt1
      have HCT := Lib.hid hct
      have HR := Lib.hid hR
      have HU := Lib.hid hu
      have HB := Lib.hid hb
      have HGK := Lib.hid hgk
      have hlu := HLE.out u (List.mem_of_getElem? hu)
      have hmu := hf.mem u (List.mem_of_getElem? hu)
      clear hwt hwt0 hwt1 hct hR hk1 hk2 hb hlw hgk
      by_cases hji : j = i
      · subst hji
        rw [HU.out] at HT
        go_wp2_with fail
        go_ret
        exact ⟨true, rfl, ⟨fun _ => HR.out, fun _ => rfl⟩, hK⟩
      · have hne2 : ((j : Int) + 1 == (i : Int) + 1) = false := by simp; omega
        have HNE := Lib.hid hji
        clear hji
        cases b with
        | true =>
          go_wp2_with fail
          go_roundg (gk - 1)
          case measure => have := HGK.out; simp at this; omega
          case rel => exact ⟨B, W0, HW0.out (by trivial), hW0, fun g' hg' => by simp [Value.ownBlock] at hg'; omega, hB, hK, by have := HGK.out; simp at this; omega, by omega⟩
        | false =>
          have hfr := Sl.frozen hB (j + 1)
          have hkS : Kept (fun k => k = w.heap.size) wr (wr.setCell ⟨w.heap.size, j + 1, none⟩ (.bool true)) := Kept.setCell (F := fun k => k = w.heap.size) (Kept.refl _ wr) (fun _ => rfl) _
          have hBS := Bls.set hB (i := j + 1) (by omega) true
          have hWS : Ints (wr.setCell ⟨w.heap.size, j + 1, none⟩ (.bool true)) (.slice (some ⟨wg, 0, none⟩) W0.length cap) W0 := Sl.kept hkS hW0 (fun g' hg' e => by simp [Value.ownBlock] at hg'; omega)
          have hKS : Kept (fun _ => False) w (wr.setCell ⟨w.heap.size, j + 1, none⟩ (.bool true)) := hK.trans hkS (fun k hk e => by omega)
          obtain ⟨g', off', mv', hga, hgl', hm', d0, d1, d2, d3, d4, d5, d6⟩ := (h.kept hKS).at_ HU.out
          simp only [Option.some.injEq, Addr.mk.injEq, and_true] at hga
          obtain ⟨rfl, rfl⟩ := hga
          obtain ⟨ma', mc', rfl⟩ := hm'.any
          go_wp2_with fail
          refine (refholds_any u ma' mc' _ hm' hmu).mono ?_
          rintro e w2 ⟨v2, rfl, hV2, hown2, hk2⟩
          have hWS2 := Sl.kept hk2 hWS (fun _ _ h => h)
          go_wp2_with (at_builtin; refine wpList_appendI (w := w2) rfl (.tmp 43) (.tmp 49) 64 rfl Tryd.underlying64 hI0 hI1 hI2 hI3 rfl (.slice (some ⟨wg, 0, none⟩) W0.length cap) v2 W0 (holdsL u) rfl rfl hWS2 hV2 (by omega) ?_; intro v3 w3 hW3 hk3 hown3)
          have hBS3 := Sl.kept hk3 (Sl.kept hk2 hBS (fun _ _ h => h)) (fun g' hg' e => by simp [Value.ownBlock] at hg' e; omega)
          have hsz2 := hk2.size
          have hszS := hkS.size
          have hbl := Sl.lt hB _ rfl
          go_roundg (gk - 1)
          case measure => have := HGK.out; simp at this; omega
          case rel =>
            refine ⟨B.set (j + 1) true, W0 ++ holdsL u, HW1.out (by have := HNE.out; omega), hW3, fun g' hg' => ?_, hBS3, ?_, ?_, by omega⟩
            · rcases hown3 g' hg' with e | e
              · simp [Value.ownBlock] at e; omega
              · omega
            · exact (hKS.trans hk2 (fun _ _ h => h)).trans hk3 (fun k hk e => by simp [Value.ownBlock] at e; omega)
            · have h1 := HGK.out
              have h2 := HCT.out (by trivial)
              simp at h1 ⊢
              omega

end Go.Proofs.YtmgdjiplpfeoiaaDoor
