import Derived.Test.YtlkgmcacbfoijaaGreatGkx
import Derived.Test.YtlkgmcacbfoijaaGreatZbs
import Derived.Test.YtlkgmcacbfoijaaGreatZah
import Derived.WalkKit
import Derived.ProofKit
import Derived.OpenShut
import Derived.ShutString
import Derived.ChangeOld
import Derived.Below
import Derived.Deep.Slices
import Derived.Deep.Fields
import Derived.ChangeSame
import Derived.ChangeSlices
set_option linter.unusedSimpArgs false
set_option linter.unusedVariables false
namespace Go.Proofs.YtlkgmcacbfoijaaGreat
open Go.RowKit

/-! ### CostTells: the walk -/
theorem wayG_len {l : List In} {V : Nat → Nat} : ∀ (f i : Nat), (wayG l V f i).length ≤ f + 1
  | 0, i => by unfold wayG; simp
  | f + 1, i => by
    rw [wayG]
    cases hx : l[i]? with
    | none => simp
    | some x =>
      cases hp : pickC V (nextC i x) with
      | none => simp only [hp]; simp
      | some j =>
        simp only [hp, List.length_cons]
        have := wayG_len (l := l) (V := V) f j.toNat
        omega
theorem way_short {l : List In} {V rk : Nat → Nat} (hz : checkI l = 0) (hb : ¬ HasBack l l.length) : ∀ (f i : Nat), Rch l i → (wayG l V f i).length + i ≤ l.length
  | 0, i, hr => by
    have := (rch_ok hz hr).1
    unfold wayG; simp; omega
  | f + 1, i, hr => by
    obtain ⟨hil, hs⟩ := rch_ok hz hr
    rw [wayG]
    cases hx : l[i]? with
    | none => simp; omega
    | some x =>
      cases hp : pickC V (nextC i x) with
      | none => simp only [hp]; simp; omega
      | some j =>
        simp only [hp, List.length_cons]
        have hj := pickC_mem hp
        obtain ⟨n, rfl, hn, _⟩ := next_ok hz hx hs hj
        have hrn : Rch l n := .step hr (by rw [succ_at hx]; exact List.mem_append_left _ hj)
        have hlt : i < n := by
          rcases Nat.lt_or_ge i n with h | h
          · exact h
          · exact absurd ⟨i, hil, x, hx, hr, n, hj, by omega⟩ hb
        have := way_short (V := V) (rk := rk) hz hb f n hrn
        rw [Int.toNat_natCast]
        omega
set_option maxHeartbeats 8000000 in
set_option maxRecDepth 100000 in
theorem walk_tells24 (l : List In) (a : Option Addr) (c : Nat) (w : World) (h : Ins w (.slice a l.length c) l) (o0 : ∀ x ∈ l, InOk x) :
    Calls Tryz.prog 3 #[.slice a l.length c] w fun e w' => e = .returned (.bool true) ∧ Kept (fun _ => False) w w' := by
  have HKN := Lib.hid known24_any
  have HIN := Lib.hid (fun (W : World) (hk : Kept (fun _ => False) w W) => h.kept hk)
  by_cases h150 : 150 < l.length
  · have hd : decide ((150 : Int) < l.length) = true := decide_eq_true (by omega)
    have hd' : decide ((l.length : Int) > 150) = true := decide_eq_true (by omega)
    have hdn : decide (150 < l.length) = true := decide_eq_true h150
    clear h o0
    go_enter Tryz.func3, Tryz.ntmps3
    go_wp2_with fail
    refine (HKN.out w).mono ?_
    rintro e w1 ⟨rfl, hk1⟩
    go_wp2_with fail
    go_ret
    exact ⟨rfl, hk1⟩
  have hok : InsOk l := ⟨by omega, o0⟩
  have hlen := hok.len
  clear o0
  have hd : decide ((150 : Int) < l.length) = false := decide_eq_false (by omega)
  have hd' : decide ((l.length : Int) > 150) = false := decide_eq_false (by omega)
  have hdn : decide (150 < l.length) = false := decide_eq_false h150
  have HL := Lib.hid (fun W hI => cLongest_any l a c W hI hok (fun h => tells_of longR h))
  have HS := Lib.hid (fun W hI => cShortest_any l a c W hI hok (fun h => tells_of shortR h))
  have HW := Lib.hid (fun W hI => cWays_any l a c W hI hok (fun h => tells_of waysR h))
  have HO := Lib.hid (fun W hI => cWorst_any l a c W hI hok)
  have HT := Lib.hid (fun W hI V1 V2 V3 rk1 rk2 rk3 hT => rtell_any l a c W hI hok (V1 := V1) (V2 := V2) (V3 := V3) (rk1 := rk1) (rk2 := rk2) (rk3 := rk3) hT)
  have HR := Lib.hid (fun W hI V rk hT => rworst_any l a c W hI hok (V := V) (rk := rk) hT)
  have HII := Lib.hid ints_any
  by_cases hc : costE l = 0
  case neg =>
    have HZ := Lib.hid hc
    have hee : (costE l == costE l) = true := beq_self_eq_true _
    clear h hok hc
    generalize costE l = E at *
    go_enter Tryz.func3, Tryz.ntmps3
    go_wp2_with fail
    refine (HKN.out w).mono ?_
    rintro e w1 ⟨rfl, hk1⟩
    have HK1 := Lib.hid hk1
    clear hk1
    go_wp2_with fail
    refine (HL.out w1 (HIN.out _ HK1.out)).mono ?_
    rintro e w2 ⟨⟨r1, rfl, -, hr1⟩, hk2⟩
    obtain rfl := hr1 HZ.out
    have HK2 := Lib.hid (HK1.out.trans hk2 (fun _ _ h => h))
    clear hk2 hr1
    go_wp2_with fail
    refine (HS.out w2 (HIN.out _ HK2.out)).mono ?_
    rintro e w3 ⟨⟨r2, rfl, -, hr2⟩, hk3⟩
    obtain rfl := hr2 HZ.out
    have HK3 := Lib.hid (HK2.out.trans hk3 (fun _ _ h => h))
    clear hk3 hr2
    go_wp2_with fail
    refine (HW.out w3 (HIN.out _ HK3.out)).mono ?_
    rintro e w4 ⟨⟨r3, rfl, -, hr3⟩, hk4⟩
    obtain rfl := hr3 HZ.out
    have HK4 := Lib.hid (HK3.out.trans hk4 (fun _ _ h => h))
    clear hk4 hr3
    go_wp2_with fail
    refine (HO.out w4 (HIN.out _ HK4.out)).mono ?_
    rintro e w5 ⟨⟨va, vn, vc, rfl, -, hv⟩, hk5⟩
    obtain ⟨rfl, rfl, rfl⟩ := hv HZ.out
    have HK5 := Lib.hid (HK4.out.trans hk5 (fun _ _ h => h))
    clear hk5 hv
    go_wp2_with fail
    refine (HT.out w5 (HIN.out _ HK5.out) (fun _ => 0) (fun _ => 0) (fun _ => 0) (fun _ => 0) (fun _ => 0) (fun _ => 0) (fun h => absurd h HZ.out)).mono ?_
    rintro e w6 ⟨⟨x, y, z, rfl, -, hx⟩, hk6⟩
    obtain ⟨rfl, rfl, rfl⟩ := hx HZ.out
    have HK6 := Lib.hid (HK5.out.trans hk6 (fun _ _ h => h))
    clear hk6 hx
    go_wp2_with fail
    refine (HR.out w6 (HIN.out _ HK6.out) (fun _ => 0) (fun _ => 0) (fun h => absurd h HZ.out)).mono ?_
    rintro e w7 ⟨⟨va, vn, vc, rfl, -, hv⟩, hk7⟩
    obtain ⟨rfl, rfl, rfl⟩ := hv HZ.out
    have HK7 := Lib.hid (HK6.out.trans hk7 (fun _ _ h => h))
    clear hk7 hv
    go_wp2_with fail
    refine (HII.out [] [] _ _ w7 (Sl.nil _ _ _) (Sl.nil _ _ _) (by simp)).mono ?_
    rintro e w8 ⟨r, rfl, hr, hk8⟩
    obtain rfl : r = true := hr.2 rfl
    go_wp2_with fail
    go_ret
    exact ⟨rfl, HK7.out.trans hk8 (fun _ _ h => h)⟩
  case pos =>
  obtain ⟨hz, hnb, -⟩ := costE_ok hc
  have HWS := Lib.hid (fun V rk => way_short (V := V) (rk := rk) hz hnb (rk 0 + 1) 0 .zero)
  rw [hc] at HL HS HW HO HT HR
  clear h hok hz hnb hc
  go_enter Tryz.func3, Tryz.ntmps3
  go_wp2_with fail
  refine (HKN.out w).mono ?_
  rintro e w1 ⟨rfl, hk1⟩
  have HK1 := Lib.hid hk1
  clear hk1
  go_wp2_with fail
  refine (HL.out w1 (HIN.out _ HK1.out)).mono ?_
  rintro e w2 ⟨⟨r1, rfl, hr1, -⟩, hk2⟩
  obtain ⟨V1, rk1, hT1, rfl⟩ := hr1 trivial
  have HK2 := Lib.hid (HK1.out.trans hk2 (fun _ _ h => h))
  have HT1 := Lib.hid hT1
  clear hk2 hr1 hT1
  go_wp2_with fail
  refine (HS.out w2 (HIN.out _ HK2.out)).mono ?_
  rintro e w3 ⟨⟨r2, rfl, hr2, -⟩, hk3⟩
  obtain ⟨V2, rk2, hT2, rfl⟩ := hr2 trivial
  have HK3 := Lib.hid (HK2.out.trans hk3 (fun _ _ h => h))
  have HT2 := Lib.hid hT2
  clear hk3 hr2 hT2
  go_wp2_with fail
  refine (HW.out w3 (HIN.out _ HK3.out)).mono ?_
  rintro e w4 ⟨⟨r3, rfl, hr3, -⟩, hk4⟩
  obtain ⟨V3, rk3, hT3, rfl⟩ := hr3 trivial
  have HK4 := Lib.hid (HK3.out.trans hk4 (fun _ _ h => h))
  have HT3 := Lib.hid hT3
  clear hk4 hr3 hT3
  go_wp2_with fail
  refine (HO.out w4 (HIN.out _ HK4.out)).mono ?_
  rintro e w5 ⟨⟨va, vn, vc, rfl, hv, -⟩, hk5⟩
  obtain ⟨V, rk, hTV, hF, hI5⟩ := hv trivial
  have HK5 := Lib.hid (HK4.out.trans hk5 (fun _ _ h => h))
  have HTV := Lib.hid (And.intro hTV hF)
  have HI5 := Lib.hid hI5
  clear hk5 hv hTV hF hI5
  go_wp2_with fail
  refine (HT.out w5 (HIN.out _ HK5.out) V1 V2 V3 rk1 rk2 rk3 (fun _ => ⟨HT1.out, HT2.out, HT3.out⟩)).mono ?_
  rintro e w6 ⟨⟨x, y, z, rfl, hx, -⟩, hk6⟩
  obtain ⟨rfl, rfl, rfl⟩ := hx trivial
  have HK6 := Lib.hid (HK5.out.trans hk6 (fun _ _ h => h))
  have HI6 := Lib.hid (Sl.kept hk6 HI5.out (fun _ _ h => h))
  clear hk6 hx
  go_wp2_with fail
  refine (HR.out w6 (HIN.out _ HK6.out) V rk (fun _ => HTV.out)).mono ?_
  rintro e w7 ⟨⟨ua, un, uc, rfl, hv, -⟩, hk7⟩
  have hI7 := hv trivial
  have HK7 := Lib.hid (HK6.out.trans hk7 (fun _ _ h => h))
  have HI7 := Lib.hid (And.intro (Sl.kept hk7 HI6.out (fun _ _ h => h)) hI7)
  have hshort := HWS.out V rk
  clear hk7 hv hI7
  generalize V1 0 = n1 at *
  generalize V2 0 = n2 at *
  generalize V3 0 = n3 at *
  go_wp2_with fail
  refine (HII.out _ _ _ _ w7 HI7.out.1 HI7.out.2 (by omega)).mono ?_
  rintro e w8 ⟨r, rfl, hr, hk8⟩
  obtain rfl : r = true := hr.2 rfl
  go_wp2_with fail
  go_ret
  exact ⟨rfl, HK7.out.trans hk8 (fun _ _ h => h)⟩

end Go.Proofs.YtlkgmcacbfoijaaGreat

set_option linter.unusedSimpArgs false
set_option linter.unusedVariables false
namespace Go.Proofs.YtlkgmcacbfoijaaGreat
open Go.ChangeShapes Go.WideShapes Go.ChangeAt Go.RowKit

/-! ### slots that came in -/
theorem spot_none {w : World} {a : Addr} {v : Value} (h : w.cell? a = some v) : a.spot = none := by
  unfold World.cell? at h
  split at h
  · split at h
    · cases h
    · rename_i hs; simpa using hs
  · cases h

section
open Go.Deep
variable {H : Type} {enc : TypeId × Value → H} {P : Program} {w : World} {base : Nat} {spare : Nat → Bool} {held : Bool}
theorem open_slice_fields {t e : TypeId} {fs : Array Field} {fuel : Nat} {cs : List Value} {x : DataW H × List MemPlace} (ht : P.underlying t = some (.slice e)) (he : P.underlying e = some (.struct fs))
    (hone : oneCellFields P fs = true) (hC : P.cellsOf e = fs.size) (h : DataW.trod enc P w base spare held fuel t cs = some x) :
    (cs = [.slice none 0 0] ∧ x = (.nil, [])) ∨
    ∃ (a : Addr) (len cap m : Nat) (D : Nat → DataW H) (Pl : Nat → List MemPlace), cs = [.slice (some a) len cap] ∧ base ≤ a.block ∧ len ≤ cap ∧ cap ≤ maxLen ∧ m = (if spare a.block then cap else len) ∧
      x = (.slice ((List.range len).map D) ((List.range (m - len)).map fun j => D (len + j)), MemPlace.row a (m * fs.size) ++ (List.range m).flatMap Pl) ∧
      ∀ i, i < m → ∃ (ys : List (DataW H × List MemPlace)) (n : Nat), D i = .agg (ys.map (·.1)) ∧ Pl i = ys.flatMap (·.2) ∧ ys.length = fs.size ∧
        ∀ (j : Nat) (f : Field), fs[j]? = some f → ∃ (v : Value) (y : DataW H × List MemPlace), w.cell? (a.add (i * fs.size + j)) = some v ∧ ys[j]? = some y ∧ DataW.trod enc P w base spare held n f.type [v] = some y := by
  rcases open_slice ht h with h0 | ⟨a, len, cap, m, n, D, Pl, hcs, hb, hl, hm, hmm, hx, hi⟩
  · exact .inl h0
  · refine .inr ⟨a, len, cap, m, D, Pl, hcs, hb, hl, hm, hmm, by rw [hC] at hx; exact hx, fun i him => ?_⟩
    obtain ⟨cs', hc, ht'⟩ := hi i him
    rw [hC] at hc
    obtain ⟨ys, n', hn', hy, hlen, hyl, hf⟩ := DataW.trod_struct he ht'
    obtain ⟨_, hcl, hat⟩ := World.cells?_some hc
    simp only [Prod.mk.injEq] at hy
    refine ⟨ys, n', hy.1, hy.2, hyl, fun j f hj => ?_⟩
    obtain ⟨ho, hk⟩ := hone_of hone j f hj
    have hjl : j < fs.size := (Array.getElem?_eq_some_iff.1 hj).1
    have hcell := hat j hjl
    have hv : cs'[j]? = some (cs'[j]'(by omega)) := List.getElem?_eq_getElem (by omega)
    have h1 := hf j f hj
    rw [ho, hk] at h1
    have hone' : (cs'.drop j).take 1 = [cs'[j]'(by omega)] := by
      rw [List.drop_eq_getElem_cons (by omega)]
      rfl
    rw [hone'] at h1
    have hys : ys[j]? = some (ys[j]'(by omega)) := List.getElem?_eq_getElem (by omega)
    refine ⟨_, _, ?_, hys, h1.trans hys⟩
    rw [← Go.Deep.add_add, hcell, hv]
end
/-- slots that can be read -/
theorem ins_opened {H : Type} {enc : TypeId × Value → H} {W : World} {base : Nat} {spare : Nat → Bool} {held : Bool} {a0 : Option Addr} {len0 cap0 : Nat} {x : DataW H × List MemPlace} {fuel : Nat}
    (hf : DataW.trod enc Tryz.prog W base spare held fuel 22 [.slice a0 len0 cap0] = some x) : ∃ l : List In, l.length = len0 ∧ len0 ≤ maxLen ∧ Ins W (.slice a0 l.length cap0) l ∧ ∀ x ∈ l, InOk x := by
  rcases open_slice_fields Tryz.underlying22 Tryz.underlying47 (by kernel_rfl) (by kernel_rfl) hf with ⟨hcs, _⟩ | ⟨x, l, c, m, D, Pl, hcs, _, hl, hm, hmm, _, hcell⟩
  · simp at hcs
    obtain ⟨rfl, rfl, rfl⟩ := hcs
    exact ⟨[], rfl, Nat.zero_le _, ⟨none, 0, rfl, Nat.le_refl _, fun i x hx => by simp at hx⟩, fun x hx => by cases hx⟩
  · simp at hcs
    obtain ⟨rfl, rfl, rfl⟩ := hcs
    have hm2 : len0 ≤ m := by rw [hmm]; split <;> omega
    have one : ∀ i, ∃ s : In, i < len0 → W.cell? (x.add (i * 5 + 0)) = some (.int .u8 s.op) ∧ W.cell? (x.add (i * 5 + 1)) = some (.int .u8 s.dst) ∧ W.cell? (x.add (i * 5 + 2)) = some (.int .u8 s.src) ∧ W.cell? (x.add (i * 5 + 3)) = some (.int .i16 s.off) ∧ W.cell? (x.add (i * 5 + 4)) = some (.int .i32 s.imm) ∧ InOk s := by
      intro i
      by_cases hi : i < len0
      · obtain ⟨ys, n, _, _, _, hff⟩ := hcell i (by omega)
        obtain ⟨v0, y0, c0, _, t0⟩ := hff 0 _ rfl
        obtain ⟨v1, y1, c1, _, t1⟩ := hff 1 _ rfl
        obtain ⟨v2, y2, c2, _, t2⟩ := hff 2 _ rfl
        obtain ⟨v3, y3, c3, _, t3⟩ := hff 3 _ rfl
        obtain ⟨v4, y4, c4, _, t4⟩ := hff 4 _ rfl
        obtain ⟨n0, e0, _, w0⟩ := DataW.trod_int Tryz.underlying5 t0
        obtain ⟨n1, e1, _, w1⟩ := DataW.trod_int Tryz.underlying5 t1
        obtain ⟨n2, e2, _, w2⟩ := DataW.trod_int Tryz.underlying5 t2
        obtain ⟨n3, e3, _, w3⟩ := DataW.trod_int Tryz.underlying45 t3
        obtain ⟨n4, e4, _, w4⟩ := DataW.trod_int Tryz.underlying21 t4
        simp only [List.cons.injEq, and_true] at e0 e1 e2 e3 e4
        subst e0 e1 e2 e3 e4
        have b0 := Go.bounds_u8 w0
        have b1 := Go.bounds_u8 w1
        have b2 := Go.bounds_u8 w2
        have b3 := Go.bounds_i16 w3
        have b4 := Go.bounds_i32 w4
        exact ⟨⟨n0, n1, n2, n3, n4⟩, fun _ => ⟨c0, c1, c2, c3, c4, ⟨by simp only; omega, by simp only; omega, by simp only; omega, by simp only; omega, by simp only; omega⟩⟩⟩
      · exact ⟨⟨0, 0, 0, 0, 0⟩, fun h => absurd h hi⟩
    obtain ⟨f, hff⟩ := Classical.axiomOfChoice one
    have hmem : ∀ i s, ((List.range len0).map f)[i]? = some s → i < len0 ∧ f i = s := fun i s hs => by
      have hi : i < len0 := by
        have := (List.getElem?_eq_some_iff.1 hs).1
        simpa using this
      exact ⟨hi, by simpa [hi] using hs⟩
    refine ⟨(List.range len0).map f, by simp, by omega, ?_, fun s hs => ?_⟩
    · refine ⟨some x, cap0, by simp, by simpa using hl, fun i s hs => ?_⟩
      obtain ⟨hi, rfl⟩ := hmem i s hs
      obtain ⟨c0, c1, c2, c3, c4, _⟩ := hff i hi
      obtain ⟨g, off, sp⟩ := x
      obtain rfl : sp = none := by
        obtain ⟨z0, _⟩ := hff 0 (by omega)
        have e0 : (⟨g, off, sp⟩ : Addr).add (0 * 5 + 0) = ⟨g, off, sp⟩ := rfl
        rw [e0] at z0
        exact spot_none z0
      have hadd : ∀ j, (⟨g, off, none⟩ : Addr).add (i * 5 + j) = ⟨g, off + i * 5 + j, none⟩ := fun j => by unfold Addr.add; split <;> simp_all [Nat.add_assoc]
      rw [hadd] at c0 c1 c2 c3 c4
      refine ⟨g, off, rfl, World.block_lt_of_cell? W _ c0, fun k u hk => ?_⟩
      have hk5 : k < 5 := by
        have := (Array.getElem?_eq_some_iff.1 hk).1
        simpa using this
      rcases (by omega : k = 0 ∨ k = 1 ∨ k = 2 ∨ k = 3 ∨ k = 4) with rfl | rfl | rfl | rfl | rfl
      · cases hk; exact c0
      · cases hk; exact c1
      · cases hk; exact c2
      · cases hk; exact c3
      · cases hk; exact c4
    · obtain ⟨i, hi⟩ := List.mem_iff_getElem?.1 hs
      obtain ⟨h1, rfl⟩ := hmem i s hi
      exact (hff i h1).2.2.2.2.2

end Go.Proofs.YtlkgmcacbfoijaaGreat

