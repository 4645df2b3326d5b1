/-
  Proved here: 'Rows.MapsPlaySaid' - the law MapsPlay returns true for all its arguments: a map of every definition tells what the document says: every row of updates, deletions, questions; what lies in its regions too. Without conditions.
  The frame was turned from the one that the kit's skeleton program wrote for the row MapsFlags (a starting text); 'open_slice_fields' is the guide's lemma on slices of structs; the walk is own work.
-/
import Derived.Test.YtahabogjfcdjkaaGreatRows
import Derived.WalkKit
import Derived.ProofKit
import Derived.OpenShut
import Derived.ShutString
import Derived.ChangeOld
import Derived.Below
import Derived.Deep.Slices
import Derived.Deep.Fields
import Derived.ChangeSame
import Derived.ChangeSlices
import Derived.Test.YtahabogjfcdjkaaGreatDv
namespace Go.Proofs.YtahabogjfcdjkaaGreat.mapsPlay
open Go.ChangeShapes Go.WideShapes Go.ChangeAt Go.RowKit
open Go.ChangeMaps (open_string shut_string)
set_option linter.unusedVariables false

section
open Go.Deep
variable {H : Type} {enc : TypeId × Value → H} {P : Program} {w : World} {base : Nat} {spare : Nat → Bool} {held : Bool}
theorem open_slice_fields {t e : TypeId} {fs : Array Field} {fuel : Nat} {cs : List Value} {x : DataW H × List MemPlace} (ht : P.underlying t = some (.slice e)) (he : P.underlying e = some (.struct fs))
    (hone : oneCellFields P fs = true) (hC : P.cellsOf e = fs.size) (h : DataW.trod enc P w base spare held fuel t cs = some x) :
    (cs = [.slice none 0 0] ∧ x = (.nil, [])) ∨
    ∃ (a : Addr) (len cap m : Nat) (D : Nat → DataW H) (Pl : Nat → List MemPlace), cs = [.slice (some a) len cap] ∧ base ≤ a.block ∧ len ≤ cap ∧ cap ≤ maxLen ∧ m = (if spare a.block then cap else len) ∧
      x = (.slice ((List.range len).map D) ((List.range (m - len)).map fun j => D (len + j)), MemPlace.row a (m * fs.size) ++ (List.range m).flatMap Pl) ∧
      ∀ i, i < m → ∃ (ys : List (DataW H × List MemPlace)) (n : Nat), D i = .agg (ys.map (·.1)) ∧ Pl i = ys.flatMap (·.2) ∧ ys.length = fs.size ∧
        ∀ (j : Nat) (f : Field), fs[j]? = some f → ∃ (v : Value) (y : DataW H × List MemPlace), w.cell? (a.add (i * fs.size + j)) = some v ∧ ys[j]? = some y ∧ DataW.trod enc P w base spare held n f.type [v] = some y := by
  rcases open_slice ht h with h0 | ⟨a, len, cap, m, n, D, Pl, hcs, hb, hl, hm, hmm, hx, hi⟩
  · exact .inl h0
  · refine .inr ⟨a, len, cap, m, D, Pl, hcs, hb, hl, hm, hmm, by rw [hC] at hx; exact hx, fun i him => ?_⟩
    obtain ⟨cs', hc, ht'⟩ := hi i him
    rw [hC] at hc
    obtain ⟨ys, n', hn', hy, hlen, hyl, hf⟩ := DataW.trod_struct he ht'
    obtain ⟨_, hcl, hat⟩ := World.cells?_some hc
    simp only [Prod.mk.injEq] at hy
    refine ⟨ys, n', hy.1, hy.2, hyl, fun j f hj => ?_⟩
    obtain ⟨ho, hk⟩ := hone_of hone j f hj
    have hjl : j < fs.size := (Array.getElem?_eq_some_iff.1 hj).1
    have hcell := hat j hjl
    have hv : cs'[j]? = some (cs'[j]'(by omega)) := List.getElem?_eq_getElem (by omega)
    have h1 := hf j f hj
    rw [ho, hk] at h1
    have hone' : (cs'.drop j).take 1 = [cs'[j]'(by omega)] := by
      rw [List.drop_eq_getElem_cons (by omega)]
      rfl
    rw [hone'] at h1
    have hys : ys[j]? = some (ys[j]'(by omega)) := List.getElem?_eq_getElem (by omega)
    refine ⟨_, _, ?_, hys, h1.trans hys⟩
    rw [← Go.Deep.add_add, hcell, hv]
end

theorem own : ownKnob Tryz.prog.godebug = none := by kernel_rfl
theorem laidOut : laidOutB Tryz.prog = true := by kernel_rfl

theorem inB_of {w : World} {x : Addr} {len : Nat} {zs : List Int} (hl : len ≤ zs.length) (hc : ∀ i, i < zs.length → w.cell? (x.add i) = some (.int .u8 (zs.getD i 0))) (hwf : ∀ n ∈ zs, (Lit.int .u8 n).wf = true) : ∃ l : List UInt8, l.length = len ∧ InB w (some x) l := by
  refine ⟨(zs.take len).map fun n => UInt8.ofNat n.toNat, by simp; omega, fun i b hb => ?_⟩
  simp only [List.getElem?_map] at hb
  have hi : i < len := by
    rcases Nat.lt_or_ge i len with h | h
    · exact h
    · rw [List.getElem?_take_eq_none h] at hb; cases hb
  rw [List.getElem?_take_of_lt hi, List.getElem?_eq_getElem (by omega)] at hb
  simp only [Option.map_some, Option.some.injEq] at hb
  have h1 := hc i (by omega)
  have hw := Go.bounds_u8 (hwf zs[i] (List.getElem_mem _))
  have hg : zs.getD i 0 = zs[i] := by rw [List.getD_eq_getElem?_getD, List.getElem?_eq_getElem (by omega)]; rfl
  have hbv : (b.toNat : Int) = zs[i] := by rw [← hb, UInt8.toNat_ofNat']; omega
  obtain ⟨g, off, sp⟩ := x
  obtain rfl : sp = none := by
    have h0 := hc 0 (by omega)
    have e0 : (⟨g, off, sp⟩ : Addr).add 0 = ⟨g, off, sp⟩ := rfl
    rw [e0] at h0
    exact spot_none h0
  have hadd : (⟨g, off, none⟩ : Addr).add i = ⟨g, off + i, none⟩ := by unfold Addr.add; split <;> simp_all
  rw [hadd, hg, ← hbv] at h1
  exact ⟨g, off, rfl, World.block_lt_of_cell? w _ h1, h1⟩

/-- a slice of bytes that came in, in a cell -/
theorem bytes_of {H : Type} {enc : TypeId × Value → H} {W : World} {base : Nat} {spare : Nat → Bool} {held : Bool} {v : Value} {n : Nat} {y : DataW H × List MemPlace} (h : DataW.trod enc Tryz.prog W base spare held n 39 [v] = some y) :
    ∃ (a : Option Addr) (l : List UInt8) (c : Nat), v = .slice a l.length c ∧ l.length ≤ c ∧ InB W a l := by
  rcases open_ints Tryz.underlying39 Tryz.underlying5 (by kernel_rfl) h with ⟨hcs, _⟩ | ⟨x, l, c, zs, hcs, _, hl, hm, hz, _, hc, hwz⟩
  · simp at hcs
    exact ⟨none, [], 0, hcs, Nat.le_refl _, fun i b hb => by simp at hb⟩
  · simp at hcs
    have hzl : l ≤ zs.length := by rw [hz]; split <;> omega
    obtain ⟨l', hl', hB⟩ := inB_of hzl hc hwz
    exact ⟨_, l', c, by rw [hl']; exact hcs, by omega, hB⟩

/-- a row of steps that can be read -/
theorem opened {H : Type} {enc : TypeId × Value → H} {W : World} {base : Nat} {spare : Nat → Bool} {held : Bool} {a0 : Option Addr} {len0 cap0 : Nat} {x : DataW H × List MemPlace} {fuel : Nat}
    (hf : DataW.trod enc Tryz.prog W base spare held fuel 24 [.slice a0 len0 cap0] = some x) : ∃ ll : List Hs, ll.length = len0 ∧ len0 ≤ maxLen ∧ InHs W a0 ll ∧ ∀ s ∈ ll, 0 ≤ s.flags ∧ s.flags < 18446744073709551616 := by
  rcases open_slice_fields Tryz.underlying24 Tryz.underlying42 (by kernel_rfl) (by kernel_rfl) hf with ⟨hcs, _⟩ | ⟨x, l, c, m, D, Pl, hcs, _, hl, hm, hmm, _, hcell⟩
  · simp at hcs
    obtain ⟨rfl, rfl, rfl⟩ := hcs
    exact ⟨[], rfl, Nat.zero_le _, fun i l h => by simp at h, by simp⟩
  · simp at hcs
    obtain ⟨rfl, rfl, rfl⟩ := hcs
    have hm2 : len0 ≤ m := by rw [hmm]; split <;> omega
    have one : ∀ i, ∃ s : Hs, i < len0 → ∃ ka kc va vc, W.cell? (x.add (i * 5 + 0)) = some (.int .i64 s.what) ∧ W.cell? (x.add (i * 5 + 1)) = some (.int .i64 s.n) ∧ W.cell? (x.add (i * 5 + 2)) = some (.slice ka s.k.length kc) ∧ W.cell? (x.add (i * 5 + 3)) = some (.slice va s.v.length vc) ∧ W.cell? (x.add (i * 5 + 4)) = some (.int .u64 s.flags) ∧
        s.k.length ≤ kc ∧ s.v.length ≤ vc ∧ InB W ka s.k ∧ InB W va s.v ∧ 0 ≤ s.flags ∧ s.flags < 18446744073709551616 := by
      intro i
      by_cases hi : i < len0
      · obtain ⟨ys, n, _, _, _, hff⟩ := hcell i (by omega)
        obtain ⟨v0, y0, c0, _, t0⟩ := hff 0 _ rfl
        obtain ⟨v1, y1, c1, _, t1⟩ := hff 1 _ rfl
        obtain ⟨v2, y2, c2, _, t2⟩ := hff 2 _ rfl
        obtain ⟨v3, y3, c3, _, t3⟩ := hff 3 _ rfl
        obtain ⟨v4, y4, c4, _, t4⟩ := hff 4 _ rfl
        obtain ⟨n0, e0, _, _⟩ := DataW.trod_int Tryz.underlying3 t0
        obtain ⟨n1, e1, _, _⟩ := DataW.trod_int Tryz.underlying3 t1
        obtain ⟨n4, e4, _, w4⟩ := DataW.trod_int Tryz.underlying40 t4
        obtain ⟨ka, kl, kc, rfl, hkl, hk⟩ := bytes_of t2
        obtain ⟨va, vl, vc, rfl, hvl, hv⟩ := bytes_of t3
        simp only [List.cons.injEq, and_true] at e0 e1 e4
        subst e0 e1 e4
        exact ⟨⟨n0, n1, kl, vl, n4⟩, fun _ => ⟨ka, kc, va, vc, c0, c1, c2, c3, c4, hkl, hvl, hk, hv, (Go.bounds_u64 w4).1, by have := (Go.bounds_u64 w4).2; simp only; omega⟩⟩
      · exact ⟨⟨0, 0, [], [], 0⟩, fun h => absurd h hi⟩
    obtain ⟨f, hff⟩ := Classical.axiomOfChoice one
    refine ⟨(List.range len0).map f, by simp, by omega, fun i s hs => ?_, fun s hs => ?_⟩
    rotate_left
    · obtain ⟨i, hi, rfl⟩ := List.mem_map.1 hs
      obtain ⟨_, _, _, _, _, _, _, _, _, _, _, _, _, h1, h2⟩ := hff i (List.mem_range.1 hi)
      exact ⟨h1, h2⟩
    have hi : i < len0 := by
      have := (List.getElem?_eq_some_iff.1 hs).1
      simpa using this
    have hfs : f i = s := by simpa [hi] using hs
    subst hfs
    obtain ⟨ka, kc, va, vc, c0, c1, c2, c3, c4, l1, l2, h1, h2, _, _⟩ := hff i hi
    obtain ⟨g, off, sp⟩ := x
    obtain rfl : sp = none := by
      obtain ⟨_, _, _, _, z0, _⟩ := hff 0 (by omega)
      have e0 : (⟨g, off, sp⟩ : Addr).add (0 * 5 + 0) = ⟨g, off, sp⟩ := rfl
      rw [e0] at z0
      exact spot_none z0
    have hadd : ∀ j, (⟨g, off, none⟩ : Addr).add (i * 5 + j) = ⟨g, off + i * 5 + j, none⟩ := fun j => by unfold Addr.add; split <;> simp_all [Nat.add_assoc]
    rw [hadd] at c0 c1 c2 c3 c4
    exact ⟨g, off, ka, kc, va, vc, rfl, World.block_lt_of_cell? W _ c0, c0, c1, c2, c3, c4, l1, l2, h1, h2⟩

section
open Go.Deep
variable {H : Type} {enc : TypeId × Value → H} {P : Program} {w : World} {base : Nat} {spare : Nat → Bool} {held : Bool}
theorem struct_cells {e : TypeId} {fs : Array Field} {fuel : Nat} {cs : List Value} {x : DataW H × List MemPlace} (he : P.underlying e = some (.struct fs))
    (hone : oneCellFields P fs = true) (hC : cs.length = fs.size) (h : DataW.trod enc P w base spare held fuel e cs = some x) :
    ∀ (j : Nat) (f : Field), fs[j]? = some f → ∃ (v : Value) (y : DataW H × List MemPlace) (n : Nat), cs[j]? = some v ∧ DataW.trod enc P w base spare held n f.type [v] = some y := by
  obtain ⟨ys, n', hn', hy, hlen, hyl, hf⟩ := DataW.trod_struct he h
  intro j f hj
  obtain ⟨ho, hk⟩ := hone_of hone j f hj
  have hjl : j < fs.size := (Array.getElem?_eq_some_iff.1 hj).1
  have hv : cs[j]? = some (cs[j]'(by omega)) := List.getElem?_eq_getElem (by omega)
  have h1 := hf j f hj
  rw [ho, hk] at h1
  have hone' : (cs.drop j).take 1 = [cs[j]'(by omega)] := by
    rw [List.drop_eq_getElem_cons (by omega)]
    rfl
  rw [hone'] at h1
  have hys : ys[j]? = some (ys[j]'(by omega)) := List.getElem?_eq_getElem (by omega)
  exact ⟨_, _, _, hv, h1.trans hys⟩
end
/-- a definition that came in, by value -/
theorem def_opened {H : Type} {enc : TypeId × Value → H} {W : World} {base : Nat} {spare : Nat → Bool} {held : Bool} {cs : Array Value} {x : DataW H × List MemPlace} {fuel : Nat} (hsz : cs.size = 6)
    (hf : DataW.trod enc Tryz.prog W base spare held fuel 23 cs.toList = some x) : ∃ d : Df, cs = d.cells := by
  have hff := struct_cells Tryz.underlying23 (by kernel_rfl) (by rw [Array.length_toList, hsz]; rfl) hf
  obtain ⟨v0, y0, m0, c0, t0⟩ := hff 0 _ rfl
  obtain ⟨v1, y1, m1, c1, t1⟩ := hff 1 _ rfl
  obtain ⟨v2, y2, m2, c2, t2⟩ := hff 2 _ rfl
  obtain ⟨v3, y3, m3, c3, t3⟩ := hff 3 _ rfl
  obtain ⟨v4, y4, m4, c4, t4⟩ := hff 4 _ rfl
  obtain ⟨v5, y5, m5, c5, t5⟩ := hff 5 _ rfl
  obtain ⟨n0, e0, _, w0⟩ := DataW.trod_int (k := .i64) (by kernel_rfl) t0
  obtain ⟨n1, e1, _, w1⟩ := DataW.trod_int (k := .i64) (by kernel_rfl) t1
  obtain ⟨n2, e2, _, w2⟩ := DataW.trod_int (k := .i64) (by kernel_rfl) t2
  obtain ⟨n3, e3, _, w3⟩ := DataW.trod_int (k := .i64) (by kernel_rfl) t3
  obtain ⟨n4, e4, _⟩ := DataW.trod_bool (by kernel_rfl) t4
  obtain ⟨n5, e5, _, w5⟩ := DataW.trod_int (k := .i64) (by kernel_rfl) t5
  simp only [List.cons.injEq, and_true] at e0 e1 e2 e3 e4 e5
  subst e0 e1 e2 e3 e4 e5
  refine ⟨⟨n0, n1, n2, n3, n4, n5⟩, ?_⟩
  apply Array.ext_getElem?
  intro i
  simp only [Array.getElem?_toList] at c0 c1 c2 c3 c4 c5
  by_cases hi : i < 6
  · rcases (by omega : i = 0 ∨ i = 1 ∨ i = 2 ∨ i = 3 ∨ i = 4 ∨ i = 5) with rfl | rfl | rfl | rfl | rfl | rfl
    · exact c0
    · exact c1
    · exact c2
    · exact c3
    · exact c4
    · exact c5
  · rw [Array.getElem?_eq_none (by omega), Array.getElem?_eq_none (by show (6 : Nat) ≤ i; omega)]

theorem walk (d : Df) (a1 : Option Addr) (cap1 : Nat) (ll : List Hs) (w : World) (h : InHs w a1 ll) (hm : ll.length ≤ maxLen) (hfl : ∀ s ∈ ll, 0 ≤ s.flags ∧ s.flags < 18446744073709551616) :
    Calls Tryz.prog 3 #[.agg d.cells, .slice a1 ll.length cap1] w fun e w' => e = .returned (.bool true) ∧ Below w.heap.size w w' :=
  (walk_play d a1 cap1 ll w h hm hfl).mono fun e w' h => ⟨h.1, h.2.below (Nat.le_refl _) (fun _ _ h => h)⟩

/-! ### THE ROW's STEP -/
set_option maxRecDepth 100000 in
theorem lifted (os : Os) (started : os.Started) (H : Type) (enc : TypeId × Value → H) :
    ReturnsInHanded {} Tryz.checked os 3 .any (Rows.mapsPlaySpec.pre6 enc Tryz.prog Tryz.f3 Rows.mapsPlayRow.domain false) (Rows.mapsPlaySpec.post enc Tryz.prog Tryz.f3 false true false false) := by
  refine returnsInHanded_of_change (C := Tryz.checked) own started (by kernel_rfl) Tryz.func3
    (ChangeSpec.witness6 (enc := enc) (C := Tryz.checked) false ⟨#[], #[.agg #[.int .i64 0, .int .i64 0, .int .i64 0, .int .i64 0, .bool false, .int .i64 0], .slice none 0 0], []⟩ 8 (by kernel_rfl) (by kernel_rfl) (by kernel_rfl) (by kernel_rfl)) ?_
  intro W base args ds gs before hval0 hW hcnd _
  have hval : ∀ (j : Nat) t v, Tryz.f3.params[j]? = some t → args[j]? = some v → Value.okWide Tryz.prog W .any base t v := hval0
  have hW' := hW
  obtain ⟨p, q, hA0, hV, rfl, hfz, hnd⟩ := hW
  have hA : DataW.TrodAll enc Tryz.prog W 0 (fun _ => true) true Tryz.f3.params.toList args.toList ds p := hA0
  rw [Tryz.params3] at hA hval
  obtain ⟨v0, vs0, d0, ds0, p0, q0, hargs, rfl, rfl, h0, r0⟩ := trodAll_cons hA
  obtain ⟨v1, vs1, d1, ds1, p1, q1, rfl, rfl, rfl, h1, r1⟩ := trodAll_cons r0
  obtain ⟨rfl, rfl, rfl⟩ := trodAll_nil r1
  obtain rfl : args = #[v0, v1] := by cases args; simp_all
  obtain ⟨rfl, rfl⟩ := trodVars_none hV
  obtain ⟨cs0, rfl, cz0⟩ := okWide_struct Tryz.underlying23 (hval 0 23 v0 rfl rfl)
  have k0 := h0
  have lt0 : ∀ x ∈ p0, x.block < W.heap.size := by obtain ⟨m, hm⟩ := k0; exact DataW.trod_lt m _ _ _ hm
  obtain ⟨d, rfl⟩ : ∃ d : Df, cs0 = d.cells := by
    obtain ⟨fuel, hf⟩ := h0
    exact def_opened (by rw [cz0]; kernel_rfl) (by simpa [Value.cells] using hf)
  obtain ⟨a1, len1, cap1, rfl⟩ := okWide_slice Tryz.underlying24 (hval 1 24 v1 rfl rfl)
  have k1 := h1
  have lt1 : ∀ x ∈ p1, x.block < W.heap.size := by obtain ⟨m, hm⟩ := k1; exact DataW.trod_lt m _ _ _ hm
  obtain ⟨ll, rfl, hmx, w1, w2⟩ : ∃ ll : List Hs, ll.length = len1 ∧ len1 ≤ maxLen ∧ InHs W a1 ll ∧ ∀ s ∈ ll, 0 ≤ s.flags ∧ s.flags < 18446744073709551616 := by
    obtain ⟨fuel, hf⟩ := h1
    exact opened (by simpa [Value.cells] using hf)
  clear hA0 hval0
  refine (walk d a1 cap1 ll W w1 hmx w2).mono fun e W' ⟨he, bel⟩ => ?_
  subst he
  exact ⟨_, rfl, _, _, _, [], _, [], hW', trodAll_mk1 (shut_bool Tryz.underlying4 _), (trodAll_cons_mk (Below.trod laidOut (by kernel_rfl) (of_decide_eq_true (by kernel_rfl)) k0 bel lt0) (trodAll_cons_mk (Below.trod laidOut (by kernel_rfl) (of_decide_eq_true (by kernel_rfl)) k1 bel lt1) trodAll_mk0)), rfl, bel.frame _, fun h => by cases h⟩

theorem over : Rows.mapsPlayRow.holds Tryz.pinned (OpenSpec.ofChange Rows.mapsPlaySpec) :=
  OpenClaim.holds_of_wide 3 Tryz.f3 rfl rfl rfl rfl rfl rfl rfl ⟨rfl, rfl, rfl, rfl, rfl⟩ rfl rfl rfl rfl rfl (by kernel_rfl) Tryz.func3 (by kernel_rfl)
    (of_decide_eq_true (by kernel_rfl)) (by unfold Func.isWrapper; first | (rw [if_pos (by decide +kernel)]; kernel_rfl) | (rw [if_neg (by decide +kernel)]; exact ⟨rfl, rfl⟩))
    (fun os started H enc _ => lifted os started H enc)

/-- THE STATEMENT -/
theorem proved : Rows.MapsPlaySaid := over
#print axioms proved
end Go.Proofs.YtahabogjfcdjkaaGreat.mapsPlay
