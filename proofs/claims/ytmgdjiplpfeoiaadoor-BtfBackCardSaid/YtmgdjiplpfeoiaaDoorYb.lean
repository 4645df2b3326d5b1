import Derived.Test.YtmgdjiplpfeoiaaDoorBs
import Derived.Test.YtmgdjiplpfeoiaaDoorTy
import Derived.Lib.AppendStr
set_option linter.unusedSimpArgs false
set_option linter.unusedVariables false
namespace Go.Proofs.YtmgdjiplpfeoiaaDoor
open Go.RowKit

/-! ### numbers and names as bytes -/
theorem infoU8 : (Tryd.prog.info? 5).map (fun i => (i.zero, i.size, i.bytes)) = some (some (.int .u8 0), 1, 1) := by kernel_rfl
/-- the lowest bytes of a number, the lowest first -/
def leB (n : Nat) : Nat → List UInt8
  | 0 => []
  | k + 1 => UInt8.ofNat n :: leB (n / 256) k
theorem leB_len (n k : Nat) : (leB n k).length = k := by
  induction k generalizing n with
  | zero => rfl
  | succ k ih => simp [leB, ih]
theorem leB_snoc : ∀ (k n : Nat), leB n (k + 1) = leB n k ++ [UInt8.ofNat (n / 256 ^ k)]
  | 0, n => by simp [leB]
  | k + 1, n => by
    have ih := leB_snoc k (n / 256)
    rw [leB, ih, leB, List.cons_append]
    rw [Nat.div_div_eq_div_mul, Nat.pow_succ, Nat.mul_comm 256]
theorem shr_cell (n i : Nat) : ((n : Int) / 2 ^ (8 * i) % 256) = (((UInt8.ofNat (n / 256 ^ i)).toNat : Nat) : Int) := by
  have e : (256 : Nat) ^ i = 2 ^ (8 * i) := by rw [Nat.pow_mul]
  have e2 : ((2 : Int) ^ (8 * i)) = ((2 ^ (8 * i) : Nat) : Int) := by simp
  rw [e, e2, UInt8.toNat_ofNat']
  rfl
def lowB (n : Int) : UInt8 := UInt8.ofNat (n % 256).toNat
theorem u8_toNat (n : Int) : ((lowB n).toNat : Int) = n % 256 := by
  unfold lowB
  rw [UInt8.toNat_ofNat']
  omega
/-- a number's four bytes -/
def b4 (n : Int) : List UInt8 := [lowB n, lowB (n / 256), lowB (n / 65536), lowB (n / 16777216)]
theorem u8_mod {n m : Int} (h : n % 256 = m % 256) : lowB n = lowB m := by unfold lowB; rw [h]
theorem u8_nat (n : Nat) : UInt8.ofNat n = lowB (n : Int) := by
  apply UInt8.toNat.inj
  have := u8_toNat (n : Int)
  rw [UInt8.toNat_ofNat']
  omega
theorem leB_b4 (n : Int) : leB (n % 18446744073709551616).toNat 4 = b4 n := by
  simp only [leB, b4, u8_nat]
  congr 1
  · exact u8_mod (by omega)
  congr 1
  · exact u8_mod (by omega)
  congr 1
  · exact u8_mod (by omega)
  congr 1
  exact u8_mod (by omega)
theorem b4_len (n : Int) : (b4 n).length = 4 := rfl
/-- a name's bytes -/
def nmB (s : List UInt8) : List UInt8 := lowB s.length :: s

/-- bytes that are owned, in a block from B on -/
def OB (B : Nat) (w : World) (v : Value) (l : List UInt8) : Prop := w.ownsRow B 5 1 v l.length (bcells l)
section
variable {B : Nat} {w w' : World} {v : Value} {l : List UInt8}
theorem OB.bs (h : OB B w v l) : Bs w v l := by
  obtain ⟨h1, h2⟩ := h
  refine ⟨fun d hd => ?_, ?_⟩
  · obtain ⟨u, _, rfl⟩ := List.mem_map.1 hd; rfl
  · rw [bcells_flat]
    refine ⟨by simpa using h1, ?_⟩
    rcases h2 with ⟨rfl, h⟩ | ⟨g, cap, cur, rfl, hB, hg, a1, a2, a3, a4⟩
    · exact .inl ⟨rfl, by simpa using h⟩
    · exact .inr ⟨g, cap, cur, by simp, Nat.zero_le _, hg, by simpa using a1, a2, a3, by simpa using a4⟩
theorem OB.by_ (h : OB B w v l) : By w v l := Sl.by_ h.bs
theorem OB.own (h : OB B w v l) : ∀ g, v.ownBlock = some g → B ≤ g := by
  intro g hg
  rcases h.2 with ⟨rfl, _⟩ | ⟨g', cap, cur, rfl, hB, _⟩
  · simp [Value.ownBlock] at hg
  · simp only [Value.ownBlock, Option.some.injEq] at hg
    omega
theorem OB.lt (h : OB B w v l) : ∀ g, v.ownBlock = some g → g < w.heap.size := h.by_.lt
theorem OB.kept {F : Nat → Prop} (h : OB B w v l) (hk : Kept F w w') (hF : ∀ g, v.ownBlock = some g → ¬ F g) : OB B w' v l := by
  refine ⟨h.1, ?_⟩
  rcases h.2 with h2 | ⟨g, cap, cur, rfl, hB, hg, h3⟩
  · exact .inl h2
  · exact .inr ⟨g, cap, cur, rfl, hB, hk.heap (hF g rfl) hg, h3⟩
theorem OB.quiet (h : OB B w v l) (hk : Kept (fun _ => False) w w') : OB B w' v l := h.kept hk (fun _ _ h => h)
theorem OB.alloc (h : OB B w v l) (o : Obj) : OB B (w.alloc o) v l := h.quiet ((Kept.refl _ w).alloc o)
theorem OB.nil (B : Nat) (w : World) : OB B w (.slice none 0 0) [] := World.ownsRow_nil w B _ 1
theorem OB.any (h : OB B w v l) : ∃ A c, v = .slice A l.length c := h.by_.any
theorem OB.low {B' : Nat} (h : OB B w v l) (hB : B' ≤ B) : OB B' w v l := by
  refine ⟨h.1, ?_⟩
  rcases h.2 with h2 | ⟨g, cap, cur, rfl, hb, h3⟩
  · exact .inl h2
  · exact .inr ⟨g, cap, cur, rfl, Nat.le_trans hB hb, h3⟩
/-- what a call has kept, as far as its own first world -/
theorem OB.step {w0 : World} (h : OB w0.heap.size w v l) (hK : Kept (fun _ => False) w0 w) (hk : Kept (fun k => v.ownBlock = some k) w w') : Kept (fun _ => False) w0 w' :=
  hK.trans hk (fun k hlt e => by have := h.own k e; omega)
theorem strCells_nV (l : List UInt8) : Lib.strCells ⟨l.toArray⟩ = bcells l := by simp [Lib.strCells, bcells]
/-- a new row of bytes -/
theorem OB.ofNew (B : Nat) (w : World) (l : List UInt8) (hB : B ≤ w.heap.size) (hl : l.length ≤ maxLen) : OB B (w.alloc (.cells (bcells l).toArray 5)) (.slice (some ⟨w.heap.size, 0, none⟩) l.length l.length) l :=
  ⟨by rw [bcells_len, Nat.mul_one], .inr ⟨w.heap.size, _, _, rfl, hB, heap_alloc_new w _, Nat.le_refl _, hl, by simp [bcells_len], by simp [← bcells_len l, List.take_length]⟩⟩
end
section
variable {P : Program} {w : World} {ops : Array Oper} {rest : List Oper} {o : Oper} {a : Act} {Q : Exit → Act → World → Prop}
/-- 'append(s, x...)', bytes behind bytes -/
theorem wpList_obApp (hgd : o.guard = none) (s x : Operand) (t : TypeId) (ho : o.op = .call { callee := .builtin .append, args := #[s, x], argTypes := #[t, t] })
    {i0 : TypeInfo} {z : Value} (ht : P.underlying t = some (.slice 5)) (hi : P.info? 5 = some i0) (hz : i0.zero = some z) (hsz : i0.size = 1) (hby : i0.bytes = 1) (hzs : z.cells.size = 1)
    (B : Nat) (v xv : Value) (X L : List UInt8) (hs : a.eval s = v) (hx : a.eval x = xv) (h : OB B w v X) (hb : By w xv L) (hlen : X.length + L.length < 1099511627776) (hB : B ≤ w.heap.size)
    (hK : ∀ v' w', OB B w' v' (X ++ L) → Kept (fun k => v.ownBlock = some k) w w' → (∀ g, v'.ownBlock = some g → v.ownBlock = some g ∨ w.heap.size ≤ g) → wpList P ops Q rest (a.put o.dst v') w') :
    wpList P ops Q (o :: rest) a w := by
  by_cases hL : L = []
  · subst hL
    obtain ⟨A, c, rfl⟩ := hb.any
    have hr : (Builtin.append_ #[t, t] o.type #[v, .slice A 0 c]).run P w = .ok v w := by
      obtain ⟨A', c', rfl⟩ := h.any
      cases A' <;> cases A <;> simp [Builtin.append_, run_underlying ht, sizeOf, typeInfo, hi, Builtin.lenOf, Builtin.firstCells, loadCells, loadCellsFrom, storeCells]
      all_goals
        rcases h.2 with ⟨hv, hB⟩ | ⟨g, cap, cur, hv, _, _, hc, _⟩
        · simp at hv
          try simp [hv]
        · simp at hv
          try (obtain ⟨rfl, rfl⟩ := hv)
          try omega
    refine wpList_plain hgd fun K hKK => ?_
    unfold Oper.wp
    simp only [List.length_nil] at hx
    simp [execOp, ho, resolve, invoke, builtin, hs, hx, hr, Result.andThen]
    exact hKK _ _ (hK v w (by simpa using h) (Kept.refl _ w) (fun g hg => .inl hg))
  · rcases hb with ⟨c, _, hL2⟩ | ⟨b, off, c, rfl, hbl, _, hc⟩
    · exact absurd hL2 hL
    · have hpos : 0 < L.length := List.length_pos_iff.2 hL
      refine wpList_append_lies _ hgd s x t ho B 5 i0 z 1 1 ht hi hz hsz hby hzs (by omega) v X.length (bcells X) hs h ⟨b, off, none⟩ L.length c (bcells L) hx (by rw [bcells_len]; omega)
        (fun j u hu => by rw [add_n]; exact hc j u hu) (bcells_one L) hpos (by unfold maxLen; omega) (by omega) hB w.heap.size rfl ?_
      intro g cap w' h2 h3 h4 h5
      refine hK _ w' ?_ (Kept.of_grown (Kept.refl _ w) h3 (fun k hk _ => hk)) (fun g' hg' => by
        simp only [Value.ownBlock, Option.some.injEq] at hg'
        subst hg'
        exact h4.imp (fun h => h) (fun h => by omega))
      unfold OB
      rw [List.length_append]
      have : bcells (X ++ L) = bcells X ++ bcells L := by simp [bcells]
      rw [this]
      exact h2
/-- 'append(s, b..)', bytes one by one, behind the making of their row -/
theorem wpList_obNew (hgd : o.guard = none) (s x : Operand) (t : TypeId) (ho : o.op = .call { callee := .builtin .append, args := #[s, x], argTypes := #[t, t] })
    {i0 : TypeInfo} {z : Value} (ht : P.underlying t = some (.slice 5)) (hi : P.info? 5 = some i0) (hz : i0.zero = some z) (hsz : i0.size = 1) (hby : i0.bytes = 1) (hzs : z.cells.size = 1)
    (B : Nat) (v : Value) (X L : List UInt8) (cs : Array Value) (hcs : cs = (bcells L).toArray) (n : Nat) (hn : n = L.length) (hs : a.eval s = v) (hx : a.eval x = .slice (some ⟨w.heap.size, 0, none⟩) n n) (h : OB B w v X) (hlen : X.length + L.length < 1099511627776) (hB : B ≤ w.heap.size)
    (hK : ∀ v' w', OB B w' v' (X ++ L) → Kept (fun k => v.ownBlock = some k) w w' → (∀ g, v'.ownBlock = some g → v.ownBlock = some g ∨ w.heap.size ≤ g) → wpList P ops Q rest (a.put o.dst v') w') :
    wpList P ops Q (o :: rest) a (w.alloc (.cells cs 5)) := by
  subst hcs hn
  refine wpList_obApp hgd s x t ho ht hi hz hsz hby hzs B v _ X L hs hx (h.alloc _) (By.ofNew w L L.length (Nat.le_refl _)) hlen (by simp; omega) ?_
  intro v' w' h1 h2 h3
  refine hK v' w' h1 (((Kept.refl _ w).alloc _).trans h2 (fun _ _ e => e)) (fun g hg => (h3 g hg).imp (fun h => h) (fun h => ?_))
  have e : (w.alloc (.cells (bcells L).toArray 5)).heap.size = w.heap.size + 1 := by simp
  omega
theorem run_append_obStr (B : Nat) (t u ty : TypeId) {i0 : TypeInfo} (ht : P.underlying t = some (.slice 5)) (hu : P.underlying u = some .string) (hi : P.info? 5 = some i0) (hz : i0.zero = some (.int .u8 0)) (hsz : i0.size = 1) (hby : i0.bytes = 1)
    (v : Value) (X L : List UInt8) (h : OB B w v X) (hlen : X.length + L.length < 1099511627776) (hB : B ≤ w.heap.size) :
    ∃ v' w', (Builtin.append_ #[t, u] ty #[v, nV L]).run P w = .ok v' w' ∧ OB B w' v' (X ++ L) ∧ Kept (fun k => v.ownBlock = some k) w w' ∧ (∀ g, v'.ownBlock = some g → v.ownBlock = some g ∨ w.heap.size ≤ g) := by
  have hXL : bcells (X ++ L) = bcells X ++ bcells L := by simp [bcells]
  rcases h.2 with ⟨rfl, hX⟩ | ⟨g, cap, cur, rfl, hBg, hg, hc, hcm, hcs, htk⟩
  · obtain ⟨v', w', hr, h2, h3, h4⟩ := Lib.run_append_own_string (P := P) w w.heap.size t u ty 5 i0 ht hu hi hz hsz hby (.slice none 0 0) X.length (bcells X) ⟨h.1, .inl ⟨rfl, hX⟩⟩ ⟨L.toArray⟩ (by rw [nV_size]; unfold maxLen; omega) (by rw [nV_size]; omega) (Nat.le_refl _)
    rw [nV_size, strCells_nV] at h2
    have hO : OB w.heap.size w' v' (X ++ L) := by
      unfold OB
      rw [List.length_append, hXL]
      exact h2
    exact ⟨v', w', hr, hO.low hB, Kept.of_grown (Kept.refl _ w) h3 (fun k hk _ => hk), fun g hg => .inr (hO.own g hg)⟩
  · by_cases hroom : X.length + L.length ≤ cap
    · obtain ⟨v', w', hr, h2, h3, h4⟩ := Lib.run_append_own_string (P := P) w B t u ty 5 i0 ht hu hi hz hsz hby _ X.length (bcells X) h ⟨L.toArray⟩ (by rw [nV_size]; unfold maxLen; omega) (by rw [nV_size]; omega) hB
      have hr2 := Lib.run_append_room_string (P := P) w t u ty 5 i0 ht hu hi hsz g X.length cap cur hg ⟨L.toArray⟩ (by rw [nV_size]; exact hroom) (by rw [nV_size]; omega)
      rw [nV_size, strCells_nV] at h2
      have hv : v' = .slice (some ⟨g, 0, none⟩) (X.length + L.length) cap := by
        have := hr.symm.trans hr2
        simp only [Result.ok.injEq] at this
        rw [this.1, nV_size]
      refine ⟨v', w', hr, ?_, Kept.of_grown (Kept.refl _ w) h3 (fun k hk _ => hk), fun g' hg' => .inl ?_⟩
      · unfold OB
        rw [List.length_append, hXL]
        exact h2
      · rw [hv] at hg'
        exact hg'
    · obtain ⟨v', w', hr, h2, h3, h4⟩ := Lib.run_append_own_string (P := P) w B t u ty 5 i0 ht hu hi hz hsz hby _ X.length (bcells X) h ⟨L.toArray⟩ (by rw [nV_size]; unfold maxLen; omega) (by rw [nV_size]; omega) hB
      have hr2 := Lib.run_append_grow_string (P := P) w t u ty 5 i0 (.int .u8 0) ht hu hi hz ⟨g, 0, none⟩ X.length cap (bcells X) (by rw [hsz, bcells_len, Nat.mul_one]) (fun j u hu => h.cells (g := g) rfl j u hu) ⟨L.toArray⟩ (by rw [nV_size]; omega) (by rw [nV_size]; omega) (by rw [hby, nV_size]; exact growslice_fits (by omega) (by omega))
      rw [nV_size, strCells_nV] at h2
      refine ⟨v', w', hr, ?_, Kept.of_grown (Kept.refl _ w) h3 (fun k hk _ => hk), fun g' hg' => .inr ?_⟩
      · unfold OB
        rw [List.length_append, hXL]
        exact h2
      · have := hr.symm.trans hr2
        simp only [Result.ok.injEq] at this
        rw [this.1] at hg'
        simp only [Value.ownBlock, Option.some.injEq] at hg'
        omega
/-- 'append(s, x...)', a string behind bytes -/
theorem wpList_obStr (hgd : o.guard = none) (s x : Operand) (t u : TypeId) (ho : o.op = .call { callee := .builtin .append, args := #[s, x], argTypes := #[t, u] })
    {i0 : TypeInfo} (ht : P.underlying t = some (.slice 5)) (hu : P.underlying u = some .string) (hi : P.info? 5 = some i0) (hz : i0.zero = some (.int .u8 0)) (hsz : i0.size = 1) (hby : i0.bytes = 1)
    (B : Nat) (v : Value) (X L : List UInt8) (hs : a.eval s = v) (hx : a.eval x = nV L) (h : OB B w v X) (hlen : X.length + L.length < 1099511627776) (hB : B ≤ w.heap.size)
    (hK : ∀ v' w', OB B w' v' (X ++ L) → Kept (fun k => v.ownBlock = some k) w w' → (∀ g, v'.ownBlock = some g → v.ownBlock = some g ∨ w.heap.size ≤ g) → wpList P ops Q rest (a.put o.dst v') w') :
    wpList P ops Q (o :: rest) a w := by
  obtain ⟨v', w', hr, h2, h3, h4⟩ := run_append_obStr (P := P) B t u o.type ht hu hi hz hsz hby v X L h (by omega) hB
  refine wpList_plain hgd fun K hKK => ?_
  unfold Oper.wp execOp
  simp only [ho, resolve, invoke, builtin, Sem.run_bind, Sem.run_pure, Result.andThen_ok, List.map_toArray, List.map_cons, List.map_nil, hs, hx, hr]
  exact hKK _ _ (hK v' w' h2 h3 h4)
end

set_option maxHeartbeats 1000000 in
set_option maxRecDepth 100000 in
theorem little_any (n size : Nat) (w : World) (hs : size ≤ 8) :
    Calls Tryd.prog 58 #[.slice none 0 0, .int .u64 n, .int .i64 size] w fun e w' => ∃ ov, e = .returned ov ∧ OB w.heap.size w' ov (leB n size) ∧ Kept (fun _ => False) w w' := by
  obtain ⟨i0, hI0, hI1, hI2, hI3⟩ := info_parts infoU8
  go_enter Tryd.func58, Tryd.ntmps58
  go_wp2_with fail
  go_loopw [0, 9] (fun bv iv wr => ∃ i : Nat, iv = .int .i64 i ∧ i ≤ size ∧ OB w.heap.size wr bv (leB n i) ∧ Kept (fun _ => False) w wr) (fun _ iv _ => size - (intOf iv).toNat)
  case atStart => exact ⟨0, rfl, Nat.zero_le _, OB.nil _ _, Kept.refl _ w⟩
  case round =>
    obtain ⟨i, rfl, hi, hB, hK⟩ := hrel
    by_cases hlt : i < size
    case neg =>
      obtain rfl : i = size := by omega
      go_wp2_with fail
      go_ret
      exact ⟨_, rfl, hB, hK⟩
    case pos =>
      have hln : (leB n i).length = i := leB_len n i
      have HLN := Lib.hid hln
      clear hln
      have hcell := shr_cell n i
      have HCELL := Lib.hid hcell
      clear hcell
      have hKs := hK.size
      go_wp2_with (at_builtin; refine wpList_obNew (w := wr) rfl (.tmp 12) (.tmp 18) 35 rfl Tryd.underlying35 hI0 hI1 hI2 hI3 rfl w.heap.size u0 (leB n i) [UInt8.ofNat (n / 256 ^ i)] _ (by rw [HCELL.out]; rfl) _ rfl rfl rfl hB (by rw [HLN.out]; simp; omega) hKs ?_; intro v5 w5 hS5 hk5 hw5; rw [← leB_snoc] at hS5)
      have hK5 := hB.step hK hk5
      go_roundw
      case rel => exact ⟨i + 1, by go_num, by omega, hS5, hK5⟩
      case measure => simp [intOf]; omega

set_option maxHeartbeats 1000000 in
set_option maxRecDepth 100000 in
theorem number_any (n : Int) (w : World) :
    Calls Tryd.prog 39 #[.int .i64 n] w fun e w' => ∃ ov, e = .returned ov ∧ OB w.heap.size w' ov (b4 n) ∧ Kept (fun _ => False) w w' := by
  have hLI := Lib.hid (little_any (n % 18446744073709551616).toNat 4 w (by omega))
  rw [leB_b4] at hLI
  have he : (((n % 18446744073709551616).toNat : Nat) : Int) = n % 18446744073709551616 := by omega
  rw [he] at hLI
  go_enter Tryd.func39, Tryd.ntmps39
  go_wp2_with fail
  refine hLI.out.mono ?_
  rintro e w1 ⟨ov, rfl, hO, hk⟩
  go_wp2_with fail
  go_ret
  exact ⟨_, rfl, hO, hk⟩


end Go.Proofs.YtmgdjiplpfeoiaaDoor
