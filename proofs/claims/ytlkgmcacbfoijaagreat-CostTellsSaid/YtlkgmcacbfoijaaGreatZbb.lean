import Derived.Test.YtlkgmcacbfoijaaGreatZav
import Derived.Test.YtlkgmcacbfoijaaGreatQjx
import Derived.Test.YtlkgmcacbfoijaaGreatZaa
import Derived.Carry
set_option linter.unusedSimpArgs false
set_option linter.unusedVariables false
namespace Go.Proofs.YtlkgmcacbfoijaaGreat
open Go.RowKit

/-! ### flow.Depth -/
theorem idxG_ok {tg : Int} : ∀ (P : List Pt2) (i : Nat), (∃ p ∈ P, p.1 = tg) → ∃ k : Nat, idxG tg P i = (i + k : Nat) ∧ k < P.length ∧ (P.getD k (0, 0)).1 = tg
  | [], i, h => by obtain ⟨p, hp, _⟩ := h; simp at hp
  | p :: r, i, h => by
    unfold idxG
    split
    · rename_i he
      exact ⟨0, by simp, by simp, by simpa using he⟩
    · rename_i he
      obtain ⟨k, h1, h2, h3⟩ := idxG_ok r (i + 1) (by
        obtain ⟨q, hq, hq2⟩ := h
        rcases List.mem_cons.1 hq with rfl | hq
        · exact absurd (by simpa using hq2) he
        · exact ⟨q, hq, hq2⟩)
      exact ⟨k + 1, by rw [h1]; congr 1; omega, by simpa using h2, by simpa using h3⟩
theorem part_of_begin {l : List In} {t : Int} (h : t ∈ beginsL l) : ∃ p ∈ partsL l, p.1 = t := by
  obtain ⟨i, hi, e⟩ := List.getElem_of_mem h
  refine ⟨partAt (beginsL l) l.length i, ?_, ?_⟩
  · unfold partsL partsOf
    exact List.mem_map.2 ⟨i, List.mem_range.2 hi, rfl⟩
  · show (beginsL l).getD i 0 = t
    rw [List.getD_eq_getElem?_getD, List.getElem?_eq_getElem hi, e]
    rfl
theorem named_begin {l : List In} (hz : checkI l = 0) {i : Nat} {x : In} {t : Int} (hx : l[i]? = some x) (hr : Rch l i) (ht : namC i x = some t) : t ∈ beginsL l := by
  obtain ⟨hi, hs⟩ := rch_ok hz hr
  have htg : tgtC l i = some t := by
    unfold tgtC
    rw [hx, hs]
    unfold namC at ht
    split at ht
    · rename_i hc
      simpa [hc] using ht
    · cases ht
  exact ((begins_ok (check_parts hz).1).2.1 t).2 (.inr ⟨i, hi, htg⟩)
theorem nm_in {l : List In} (hz : checkI l = 0) {i : Nat} {j : Int} (h : j ∈ nmAt l i) : 0 ≤ j ∧ j < (partsL l).length := by
  unfold nmAt at h
  split at h
  · rename_i x hx
    split at h
    · rename_i t ht
      by_cases hr : Rch l i
      · rw [@if_pos _ (Classical.propDecidable _) hr] at h
        obtain ⟨k, h1, h2, _⟩ := idxG_ok (partsL l) 0 (part_of_begin (named_begin hz hx hr ht))
        have hje : j = idxG t (partsL l) 0 := by simpa using h
        rw [hje, h1]
        omega
      · rw [@if_neg _ (Classical.propDecidable _) hr] at h
        simp at h
    · simp at h
  · simp at h
theorem mem_row {l : List In} {p : Pt2} {j : Int} : j ∈ rowL l p ↔ ∃ i, p.1.toNat ≤ i ∧ i < p.2.toNat ∧ j ∈ nmAt l i := by
  unfold rowL
  rw [(compact_ok (sortL_ok _).1).2, (sortL_ok _).2]
  unfold rawL
  rw [List.mem_flatMap]
  constructor
  · rintro ⟨d, hd, hj⟩
    have := List.mem_range.1 hd
    exact ⟨p.1.toNat + d, by omega, by omega, hj⟩
  · rintro ⟨i, h1, h2, hj⟩
    exact ⟨i - p.1.toNat, List.mem_range.2 (by omega), by rwa [show p.1.toNat + (i - p.1.toNat) = i by omega]⟩
theorem calls_in {l : List In} (hz : checkI l = 0) : InL (callsL l) := fun js hjs j hj => by
  obtain ⟨p, hp, rfl⟩ := List.mem_map.1 hjs
  obtain ⟨i, _, _, h⟩ := mem_row.1 hj
  have := nm_in hz h
  have e : (callsL l).length = (partsL l).length := List.length_map _
  omega
theorem row_len (l : List In) (p : Pt2) : (rowL l p).length ≤ p.2.toNat := by
  unfold rowL
  have h1 := Lib.compact_length_le (sortL (rawL l p.1.toNat p.2.toNat))
  rw [sortL_len] at h1
  have h2 := rawL_len l p.1.toNat p.2.toNat
  omega
noncomputable def depthE (l : List In) : Int := if checkI l = 0 then (if ((dpT (callsL l) (callsL l).length).1.2 || decide (8 < (dpT (callsL l) (callsL l).length).2)) = true then 151 else 0) else checkI l
set_option maxHeartbeats 8000000 in
set_option maxRecDepth 100000 in
theorem fDepth_any (l : List In) (a : Option Addr) (c : Nat) (w : World) (h : Ins w (.slice a l.length c) l) (hok : InsOk l) :
    Calls Tryz.prog 26 #[.slice a l.length c] w fun e w' => (∃ x : Int, e = .returned (.tuple #[.int .i64 x, .int .i64 (depthE l)])) ∧ Kept (fun _ => False) w w' := by
  have hmf : ∀ (fn : Fn) (first cap : Array Value) (w : World), (Instr.makeFunc fn first cap).run Tryz.prog w = .ok (.func fn first cap) w := fun _ _ _ _ => rfl
  have hlen := hok.len
  have HCA := Lib.hid (fCalls_any l a c w h hok)
  clear h
  by_cases hz : checkI l = 0
  case neg =>
    have hzd : (checkI l != 0) = true := by simpa using hz
    have hzd' : (checkI l == 0) = false := by simpa using hz
    have hde : depthE l = checkI l := if_neg hz
    rw [hde]
    have HZ := Lib.hid hz
    clear hz hde
    generalize checkI l = r at *
    go_enter Tryz.func26, Tryz.ntmps26
    go_wp2_with fail
    refine HCA.out.mono ?_
    rintro e w1 ⟨⟨va, vn, vc, rfl, hr⟩, hk1⟩
    clear hr
    go_wp2_with fail
    refine bodyPost_ret (v := .tuple #[.int .i64 0, .int .i64 r]) (by simp [results, Tryz.results26, go_sem]) rfl ?_
    exact ⟨⟨_, rfl⟩, hk1.alloc _⟩
  case pos =>
    have hin := calls_in hz
    have hpn : (partsL l).length ≤ 64 := (check_parts hz).2.1
    have hpo := parts_ok (check_parts hz).1
    have hrl : ∀ js ∈ callsL l, js.length ≤ 1000000 := fun js hjs => by
      obtain ⟨p, hp, rfl⟩ := List.mem_map.1 hjs
      obtain ⟨i, hi, hpi⟩ := List.getElem_of_mem hp
      obtain ⟨f, t, hpe, _, ht⟩ := hpo.nat (i := i) (p := p) (by rw [List.getElem?_eq_getElem hi, hpi])
      have := row_len l p
      rw [hpe] at this
      have : (rowL l p).length ≤ t := by rw [hpe]; simpa using this
      omega
    have hcl : (callsL l).length = (partsL l).length := List.length_map _
    have hde : depthE l = if ((dpT (callsL l) (callsL l).length).1.2 || decide (8 < (dpT (callsL l) (callsL l).length).2)) = true then 151 else 0 := if_pos hz
    have hpos : 0 < (callsL l).length := by
      rw [hcl, parts_len]
      have := ((begins_ok (check_parts hz).1).2.1 0).2 (.inl rfl)
      exact List.length_pos_of_mem this
    rw [hde]
    rw [hz] at HCA
    have h64 : (callsL l).length ≤ 64 := by omega
    clear hz hpo hde hcl hpn
    generalize callsL l = L at *
    obtain ⟨TT, hTT⟩ : ∃ T, dpT L L.length = T := ⟨_, rfl⟩
    rw [hTT]
    have HTT := Lib.hid hTT
    clear hTT
    obtain ⟨i0, hI0, hI1, hI2, hI3⟩ := info_parts infoI
    go_enter Tryz.func26, Tryz.ntmps26
    go_wp2_with fail
    refine HCA.out.mono ?_
    rintro e wB ⟨⟨va, vn, vc, rfl, hR⟩, hkB⟩
    have hR := hR trivial
    obtain ⟨vals, hvl, hvs, hvr⟩ := hR.ex
    obtain ⟨cg, ccap, hcv2, hcc, hcl2⟩ := Sl.some_ hvs (by rw [List.length_map]; omega)
    rw [List.length_map, hvl] at hcv2
    cases hcv2
    have HR := Lib.hid hR
    clear hvs hvr hcc hvl hR HCA
    go_upto_region 9 with (refine wpList_makeSl (w := wB.alloc (.cells #[.slice (some ⟨cg, 0, none⟩) L.length vc] 92)) rfl (.tmp 20) (.tmp 20) 28 rfl (.int .i64 0) rfl Tryz.underlying28 hI0 hI1 hI2 hI3 (by omega) L.length rfl rfl (by omega) ?_; intro w3 hD3 hk3; have c0 : w3.cell? ⟨wB.heap.size, 0, none⟩ = some (.slice (some ⟨cg, 0, none⟩) L.length vc) := (hk3.blk id (Blk.new wB 92 #[.slice (some ⟨cg, 0, none⟩) L.length vc])).cell 0; have l0 : wB.heap.size < w3.heap.size := (hk3.blk id (Blk.new wB 92 #[.slice (some ⟨cg, 0, none⟩) L.length vc])).lt)
    have hDM : DM wB.heap.size (wB.heap.size + 1) w3.heap.size (w3.heap.size + 1) (w3.heap.size + 1 + 1) (((w3.alloc (.cells #[.slice (some ⟨wB.heap.size + 1, 0, none⟩) L.length L.length] 28)).alloc (.cells #[.bool false] 4)).alloc (.cells #[.func (.func 42) #[] #[.pointer (some ⟨w3.heap.size + 1, 0, none⟩), .pointer (some ⟨w3.heap.size, 0, none⟩), .pointer (some ⟨wB.heap.size, 0, none⟩), .pointer (some ⟨w3.heap.size + 1 + 1, 0, none⟩)]] 95)) wB (.slice (some ⟨cg, 0, none⟩) L.length vc) L (List.replicate L.length 0) false := by
      have hb := Blk.new wB 92 #[.slice (some ⟨cg, 0, none⟩) L.length vc]
      have hk0 := (Kept.refl (fun _ => False) wB).alloc (.cells #[.slice (some ⟨cg, 0, none⟩) L.length vc] 92)
      have hsz3 := hk3.size
      have hsz3 : wB.heap.size + 1 ≤ w3.heap.size := by simpa using hsz3
      have hdl : wB.heap.size + 1 < w3.heap.size := by
        have := Sl.lt hD3 _ rfl
        simpa using this
      refine ⟨(((hk3.blk id hb).alloc _).alloc _).alloc _, ?_, ((Blk.new w3 _ _).alloc _).alloc _, (blk_new (w3.alloc _) (by simp)).alloc _, blk_new ((w3.alloc _).alloc _) (by simp), ((((hk0.trans hk3 (fun _ _ h => h)).alloc _).alloc _).alloc _), by omega⟩
      have := ((Sl.alloc hD3 (.cells #[.slice (some ⟨wB.heap.size + 1, 0, none⟩) L.length L.length] 28)).alloc (.cells #[.bool false] 4)).alloc (.cells #[.func (.func 42) #[] #[.pointer (some ⟨w3.heap.size + 1, 0, none⟩), .pointer (some ⟨w3.heap.size, 0, none⟩), .pointer (some ⟨wB.heap.size, 0, none⟩), .pointer (some ⟨w3.heap.size + 1 + 1, 0, none⟩)]] 95)
      unfold Ints
      rw [List.map_replicate]
      rw [show wB.heap.size + 1 = (wB.alloc (.cells #[.slice (some ⟨cg, 0, none⟩) L.length vc] 92)).heap.size by simp]
      rw [show wB.heap.size + 1 = (wB.alloc (.cells #[.slice (some ⟨cg, 0, none⟩) L.length vc] 92)).heap.size by simp] at this
      exact this
    have HDM := Lib.hid hDM
    have hord := hDM.o
    have d0 := hDM.c.cell 0
    clear hDM hD3 hk3 c0 l0
    generalize ((w3.alloc (.cells #[.slice (some ⟨wB.heap.size + 1, 0, none⟩) L.length L.length] 28)).alloc (.cells #[.bool false] 4)).alloc (.cells #[.func (.func 42) #[] #[.pointer (some ⟨w3.heap.size + 1, 0, none⟩), .pointer (some ⟨w3.heap.size, 0, none⟩), .pointer (some ⟨wB.heap.size, 0, none⟩), .pointer (some ⟨w3.heap.size + 1 + 1, 0, none⟩)]] 95) = w4 at *
    generalize w3.heap.size + 1 + 1 = bf at *
    generalize w3.heap.size + 1 = br at *
    generalize w3.heap.size = bd at *
    generalize wB.heap.size + 1 = dg at *
    generalize hbc : wB.heap.size = bc at *
    go_wp2_with fail
    clear d0
    go_loopw [9, 25] (fun mv kv wr => ∃ k : Nat, kv = .int .i64 k ∧ mv = .int .i64 (dpT L k).2 ∧ k ≤ L.length ∧ DM bc dg bd br bf wr wB (.slice (some ⟨cg, 0, none⟩) L.length vc) L (dpT L k).1.1 (dpT L k).1.2) (fun _ kv _ => L.length - (intOf kv).toNat)
    case atStart => exact ⟨0, rfl, rfl, by omega, HDM.out⟩
    case round =>
      clear HDM
      obtain ⟨k, rfl, rfl, hk, hM⟩ := hrel
      obtain ⟨hbd, hm0, hm1⟩ := dpT_bd hin k hk
      have htl := told_le (dpT L k).1.1
      rw [hbd.len] at htl
      have c3 := hM.f.cell 0
      have c2 := hM.r.cell 0
      have c1 := hM.dc.cell 0
      have c0 := hM.c.cell 0
      have HM := Lib.hid hM
      have HBD := Lib.hid hbd
      clear hM hbd
      by_cases hkl : k < L.length
      case neg =>
        obtain rfl : k = L.length := by omega
        have hdl : decide ((L.length : Int) < L.length) = false := decide_eq_false (by omega)
        rw [HTT.out] at hm0 hm1 htl c2 HM HBD ⊢
        obtain ⟨⟨D, rd⟩, m⟩ := TT
        have hlen1 : D.length = L.length := HBD.out.len
        obtain ⟨d0, hd0⟩ : ∃ d, D[0]? = some d := ⟨_, List.getElem?_eq_getElem (by omega)⟩
        have hdc := Ints.cell HM.out.d hd0
        have HKF := Lib.hid (hkB.trans HM.out.k (fun _ _ h => h))
        cases rd
        case true =>
          go_wp2_with fail
          refine bodyPost_ret (v := .tuple #[.int .i64 0, .int .i64 151]) (by simp [results, Tryz.results26, go_sem]) rfl ?_
          exact ⟨⟨_, rfl⟩, HKF.out⟩
        case false =>
          by_cases h8 : 8 < m
          · have hd8 : decide (8 < m) = true := decide_eq_true h8
            have hd8' : decide (m > 8) = true := decide_eq_true h8
            clear h8
            go_wp2_with fail
            refine bodyPost_ret (v := .tuple #[.int .i64 0, .int .i64 151]) (by simp [results, Tryz.results26, go_sem]) rfl ?_
            exact ⟨⟨0, by simp [hd8]⟩, HKF.out⟩
          · have hd8 : decide (8 < m) = false := decide_eq_false h8
            have hd8' : decide (m > 8) = false := decide_eq_false h8
            clear h8
            go_wp2_with fail
            refine bodyPost_ret (v := .tuple #[.int .i64 d0, .int .i64 0]) (by simp [results, Tryz.results26, go_sem]) rfl ?_
            exact ⟨⟨d0, by simp [hd8]⟩, HKF.out⟩
      case pos =>
        have hdl : decide ((k : Int) < L.length) = true := decide_eq_true (by omega)
        have HC := Lib.hid (walk_ih bc dg bd br bf wB _ L HR.out hin (by omega) hrl (L.length + 1) k (dpT L k).1.1 (dpT L k).1.2 wr (zeros_small HBD.out) hkl HBD.out HM.out)
        have HS := Lib.hid (dpT_succ L k)
        have hst := wk_step hin (L.length + 1) k (dpT L k).1 hkl HBD.out
        have hr0 := hst.2.1
        have hr1 := hst.2.2
        have htl2 := told_le (wkG L (L.length + 1) k (dpT L k).1).1.1
        rw [hst.1.bd.len] at htl2
        clear hst
        have HC' : Hid (Calls Tryz.prog 42 #[.int .i64 k, .pointer (some ⟨br, 0, none⟩), .pointer (some ⟨bd, 0, none⟩), .pointer (some ⟨bc, 0, none⟩), .pointer (some ⟨bf, 0, none⟩)] wr fun e w' =>
          e = .returned (.int .i64 (wkG L (L.length + 1) k (dpT L k).1).2) ∧ DM bc dg bd br bf w' wB (.slice (some ⟨cg, 0, none⟩) L.length vc) L (wkG L (L.length + 1) k (dpT L k).1).1.1 (wkG L (L.length + 1) k (dpT L k).1).1.2) := HC
        clear HC HBD
        generalize wkG L (L.length + 1) k (dpT L k).1 = rr at *
        obtain ⟨⟨D2, rd2⟩, r2⟩ := rr
        generalize hmm : (dpT L k).2 = m at *
        go_wp2_with fail
        refine HC'.out.mono ?_
        rintro e w8 ⟨rfl, hM8⟩
        have HM8 := Lib.hid hM8
        clear hM8 HC' HM
        go_wp2_with fail
        go_roundw
        case rel => exact ⟨k + 1, by simp, by rw [HS.out], by omega, by rw [HS.out]; exact HM8.out⟩
        case measure => (simp [intOf]; omega)

end Go.Proofs.YtlkgmcacbfoijaaGreat

set_option linter.unusedSimpArgs false
set_option linter.unusedVariables false
namespace Go.Proofs.YtlkgmcacbfoijaaGreat
open Go.RowKit

/-! ### a map with keys of an integer kind -/
def IMap (w : World) (q : IntKind) (m : Nat) (L : List (Int × Value)) : Prop :=
  ∃ es clock, w.heap[m]? = some (.map es clock) ∧ es.toList.map (fun e => (e.key, e.val)) = L.map (fun x => (Value.int q x.1, x.2))

def lookI {α : Type} : List (Int × α) → Int → Option α
  | [], _ => none
  | (k, v) :: r, x => if k = x then some v else lookI r x
def updI {α : Type} : List (Int × α) → Int → α → List (Int × α)
  | [], x, u => [(x, u)]
  | (k, v) :: r, x, u => if k = x then (k, u) :: r else (k, v) :: updI r x u
def delI {α : Type} : List (Int × α) → Int → List (Int × α)
  | [], _ => []
  | (k, v) :: r, x => if k = x then r else (k, v) :: delI r x

theorem IMap.lt {w : World} {q : IntKind} {m : Nat} {L : List (Int × Value)} (h : IMap w q m L) : m < w.heap.size := by
  obtain ⟨es, clock, hb, _⟩ := h
  exact (Array.getElem?_eq_some_iff.1 hb).1
theorem IMap.kept {F : Nat → Prop} {w w' : World} {q : IntKind} {m : Nat} {L : List (Int × Value)} (h : IMap w q m L) (hk : Kept F w w') (hF : ¬ F m) : IMap w' q m L := by
  obtain ⟨es, clock, hb, he⟩ := h
  exact ⟨es, clock, hk.heap hF hb, he⟩
theorem IMap.drew {w : World} {q : IntKind} {m : Nat} {L : List (Int × Value)} (h : IMap w q m L) : IMap w.drew q m L := h
theorem IMap.drewN {w : World} {q : IntKind} {m : Nat} {L : List (Int × Value)} (h : IMap w q m L) (n : Nat) : IMap (w.drewN n) q m L := h
theorem IMap.alloc {w : World} {q : IntKind} {m : Nat} {L : List (Int × Value)} (h : IMap w q m L) (o : Obj) : IMap (w.alloc o) q m L := h.kept (Kept.alloc (F := fun _ => False) (Kept.refl _ w) o) (fun h => h)
theorem IMap.setCell {w : World} {q : IntKind} {m : Nat} {L : List (Int × Value)} (h : IMap w q m L) {p : Addr} (hp : p.block ≠ m) (u : Value) : IMap (w.setCell p u) q m L :=
  h.kept (Kept.setCell (F := fun k => k = p.block) (Kept.refl _ w) (fun _ => rfl) u) (fun e => hp e.symm)
theorem IMap.made (w : World) (q : IntKind) : IMap (w.alloc (.map #[] 0)) q w.heap.size [] := ⟨#[], 0, (MapKept.heap_alloc w _).1, rfl⟩
theorem IMap.ne_blk {w : World} {q : IntKind} {m g : Nat} {t : TypeId} {cs : Array Value} {L : List (Int × Value)} (h : IMap w q m L) (hb : Blk w g t cs) : m ≠ g := by
  obtain ⟨es, clock, hm, _⟩ := h
  rintro rfl
  unfold Blk at hb
  rw [hm] at hb
  cases hb

/-- where the key stands -/
def posI {α : Type} : List (Int × α) → Int → Nat → Option (Nat × α)
  | [], _, _ => none
  | (k, v) :: r, x, i => if k = x then some (i, v) else posI r x (i + 1)

theorem findNow_I (q : IntKind) (x : Int) : ∀ (es : List MapEntry) (L : List (Int × Value)) (i : Nat), es.map (fun e => (e.key, e.val)) = L.map (fun x => (Value.int q x.1, x.2)) →
    Instr.findNow (.int q) (.int q x) es i = some (posI L x i)
  | [], [], i, _ => rfl
  | e :: es, (k, v) :: L, i, h => by
    simp only [List.map_cons, List.cons.injEq, Prod.mk.injEq] at h
    obtain ⟨⟨h1, h2⟩, h3⟩ := h
    have ih := findNow_I q x es L (i + 1) h3
    by_cases e1 : k = x
    · simp [Instr.findNow, Instr.sameNow, h1, h2, posI, e1]
    · have e2 : (x == k) = false := by simpa using fun e => e1 e.symm
      simp [Instr.findNow, Instr.sameNow, h1, h2, posI, e1, e2, ih]
  | [], _ :: _, _, h => by simp at h
  | _ :: _, [], _, h => by simp at h

theorem posI_look {α : Type} (x : Int) : ∀ (L : List (Int × α)) (i : Nat), (posI L x i).map (·.2) = lookI L x
  | [], _ => rfl
  | (k, v) :: L, i => by
    by_cases e : k = x
    · simp [posI, lookI, e]
    · simp [posI, lookI, e, posI_look x L (i + 1)]

theorem posI_none {α : Type} {x : Int} : ∀ {L : List (Int × α)} {i : Nat} {u : α}, posI L x i = none → updI L x u = L ++ [(x, u)] ∧ delI L x = L
  | [], _, _, _ => ⟨rfl, rfl⟩
  | (k, v) :: L, i, u, h => by
    by_cases e : k = x
    · simp [posI, e] at h
    · simp only [posI, e, if_false] at h
      have ih := posI_none (L := L) (u := u) h
      simp [updI, delI, e, ih.1, ih.2]

theorem posI_some {x : Int} {u : Value} {q : IntKind} : ∀ {L : List (Int × Value)} {i j : Nat} {v : Value} {es : List MapEntry}, posI L x i = some (j, v) → es.map (fun e => (e.key, e.val)) = L.map (fun x => (Value.int q x.1, x.2)) →
    i ≤ j ∧ (es[j - i]?).map (·.key) = some (.int q x) ∧ (es.modify (j - i) fun e => { e with key := Value.int q x, val := u }).map (fun e => (e.key, e.val)) = (updI L x u).map (fun x => (Value.int q x.1, x.2)) ∧ (es.eraseIdx (j - i)).map (fun e => (e.key, e.val)) = (delI L x).map (fun x => (Value.int q x.1, x.2))
  | [], _, _, _, _, h, _ => by simp [posI] at h
  | (k, v) :: L, i, j, v', [], h, he => by simp at he
  | (k, v) :: L, i, j, v', e0 :: es, h, he => by
    simp only [List.map_cons, List.cons.injEq, Prod.mk.injEq] at he
    obtain ⟨⟨h1, h2⟩, h3⟩ := he
    by_cases e : k = x
    · simp only [posI, e, if_true, Option.some.injEq, Prod.mk.injEq] at h
      obtain ⟨rfl, rfl⟩ := h
      subst e
      simp [h1, h2, h3, updI, delI]
    · simp only [posI, e, if_false] at h
      obtain ⟨a1, a2, a3, a4⟩ := posI_some (u := u) (q := q) h h3
      have ej : j - i = (j - (i + 1)) + 1 := by omega
      rw [ej]
      refine ⟨by omega, by simpa using a2, ?_, ?_⟩
      · simp [updI, e, h1, h2]
        exact a3
      · simp [delI, e, h1, h2, a4]

section
variable {P : Program} {w : World} {q : IntKind} {m : Nat} {L : List (Int × Value)} {t k e : TypeId}

theorem run_checkKey_I (hk : P.underlying k = some (.int q)) (em : Bool) (x : Int) (w : World) : (Instr.checkKey em 10000 k (.int q x)).run P w = .ok () w := by
  exact MapKept.run_checkKey hk (by simp [MapKept.IsKey]) em 9999

theorem run_findKey_I (hk : P.underlying k = some (.int q)) {es : List MapEntry} (h : es.map (fun e => (e.key, e.val)) = L.map (fun x => (Value.int q x.1, x.2))) (x : Int) (w : World) : (Instr.findKey k (.int q x) es).run P w = .ok (posI L x 0) w := by
  simp [Instr.findKey, run_underlying hk, findNow_I q x es L 0 h]

theorem IMap.look2 (h : IMap w q m L) (ht : P.underlying t = some (.map k e)) (hk : P.underlying k = some (.int q)) {z : Value} (hz : ∀ w, (zeroValue e).run P w = .ok z w) (x : Int) :
    (Instr.lookup t (.map (some m)) (.int q x) true).run P w = .ok (.tuple #[(lookI L x).getD z, .bool (lookI L x).isSome]) w := by
  obtain ⟨es, clock, hb, he⟩ := h
  have hp := posI_look x L 0
  cases hpos : posI L x 0 with
  | none =>
    rw [hpos] at hp
    simp [Instr.lookup, run_underlying ht, MapKept.run_getObj_map hb, run_checkKey_I hk, run_findKey_I hk he, hpos, hz, Result.andThen, ← hp]
  | some r =>
    rw [hpos] at hp
    simp [Instr.lookup, run_underlying ht, MapKept.run_getObj_map hb, run_checkKey_I hk, run_findKey_I hk he, hpos, hz, Result.andThen, ← hp]

theorem IMap.look1 (h : IMap w q m L) (ht : P.underlying t = some (.map k e)) (hk : P.underlying k = some (.int q)) {z : Value} (hz : ∀ w, (zeroValue e).run P w = .ok z w) (x : Int) :
    (Instr.lookup t (.map (some m)) (.int q x) false).run P w = .ok ((lookI L x).getD z) w := by
  obtain ⟨es, clock, hb, he⟩ := h
  have hp := posI_look x L 0
  cases hpos : posI L x 0 with
  | none =>
    rw [hpos] at hp
    simp [Instr.lookup, run_underlying ht, MapKept.run_getObj_map hb, run_checkKey_I hk, run_findKey_I hk he, hpos, hz, Result.andThen, ← hp]
  | some r =>
    rw [hpos] at hp
    simp [Instr.lookup, run_underlying ht, MapKept.run_getObj_map hb, run_checkKey_I hk, run_findKey_I hk he, hpos, hz, Result.andThen, ← hp]

theorem setObj_kept (w : World) (m : Nat) (o : Obj) : Kept (fun k => k = m) w { w with heap := w.heap.setIfInBounds m o } :=
  ⟨rfl, rfl, rfl, by simp, fun k _ hk => by simp [Array.getElem?_setIfInBounds_ne (Ne.symm hk)]⟩

theorem IMap.upd (h : IMap w q m L) (ht : P.underlying t = some (.map k e)) (hk : P.underlying k = some (.int q)) (x : Int) (u : Value) :
    ∃ w', (Instr.mapUpdate t (.map (some m)) (.int q x) u).run P w = .ok () w' ∧ IMap w' q m (updI L x u) ∧ Kept (fun k => k = m) w w' := by
  obtain ⟨es, clock, hb, he⟩ := h
  have hlt : m < w.heap.size := (Array.getElem?_eq_some_iff.1 hb).1
  cases hpos : posI L x 0 with
  | none =>
    refine ⟨{ w with heap := w.heap.setIfInBounds m (.map (es.push { key := .int q x, val := u, born := clock }) (clock + 1)) }, ?_, ⟨_, _, by simp [hlt]; exact ⟨rfl, rfl⟩, ?_⟩, setObj_kept w m _⟩
    · simp [Instr.mapUpdate, run_underlying ht, MapKept.run_getObj_map hb, run_checkKey_I hk, run_findKey_I hk he, hpos, MapKept.run_setObj_map _ hb, Result.andThen]
    · rw [(posI_none (u := u) hpos).1]
      simp [he]
  | some r =>
    obtain ⟨j, v⟩ := r
    obtain ⟨_, a2, a3, _⟩ := posI_some (u := u) (q := q) hpos he
    simp only [Nat.sub_zero] at a2 a3
    have a2' : (es[j]?.map (·.key)).getD (.int q x) = .int q x := by
      have : es[j]? = es.toList[j]? := by simp
      rw [this, a2]; rfl
    have hkts : ∀ w, (Instr.keyThatStays (.int q x) (.int q x)).run P w = .ok (.int q x) w := fun w => by simp [Instr.keyThatStays, Instr.sameBits]
    refine ⟨{ w with heap := w.heap.setIfInBounds m (.map (es.modify j fun e => { e with key := .int q x, val := u }) clock) }, ?_, ⟨_, _, by simp [hlt]; exact ⟨rfl, rfl⟩, ?_⟩, setObj_kept w m _⟩
    · simp [Instr.mapUpdate, run_underlying ht, MapKept.run_getObj_map hb, run_checkKey_I hk, run_findKey_I hk he, hpos, a2', hkts, MapKept.run_setObj_map _ hb, Result.andThen]
    · simpa using a3

theorem IMap.len (h : IMap w q m L) (ht : P.underlying t = some (.map k e)) (ty : TypeId) : (Builtin.len_ #[t] ty #[.map (some m)]).run P w = .ok (.int .i64 L.length) w := by
  obtain ⟨es, clock, hb, he⟩ := h
  have hl : es.size = L.length := by have := congrArg List.length he; simpa using this
  simp [Builtin.len_, run_underlying ht, MapKept.run_getObj_map hb, hl, goInt]

theorem IMap.del (h : IMap w q m L) (ht : P.underlying t = some (.map k e)) (hk : P.underlying k = some (.int q)) (x : Int) (ty : TypeId) (tys : Array TypeId) (htys : tys[0]? = some t) :
    ∃ w', (Builtin.delete_ tys ty #[.map (some m), .int q x]).run P w = .ok (.tuple #[]) w' ∧ IMap w' q m (delI L x) ∧ Kept (fun k => k = m) w w' := by
  obtain ⟨es, clock, hb, he⟩ := h
  have hlt : m < w.heap.size := (Array.getElem?_eq_some_iff.1 hb).1
  cases hpos : posI L x 0 with
  | none =>
    refine ⟨{ w with heap := w.heap.setIfInBounds m (.map es clock) }, ?_, ⟨es, clock, by simp [hlt], ?_⟩, setObj_kept w m _⟩
    · simp [Builtin.delete_, htys, run_underlying ht, MapKept.run_getObj_map hb, run_checkKey_I hk, run_findKey_I hk he, hpos, MapKept.run_setObj_map _ hb, Result.andThen]
    · rw [(posI_none (u := .nilIface) hpos).2]
      exact he
  | some r =>
    obtain ⟨j, v⟩ := r
    obtain ⟨_, _, _, a4⟩ := posI_some (u := .nilIface) (q := q) hpos he
    simp only [Nat.sub_zero] at a4
    refine ⟨{ w with heap := w.heap.setIfInBounds m (.map (es.eraseIdxIfInBounds j) clock) }, ?_, ⟨_, _, by simp [hlt]; exact ⟨rfl, rfl⟩, ?_⟩, setObj_kept w m _⟩
    · simp [Builtin.delete_, htys, run_underlying ht, MapKept.run_getObj_map hb, run_checkKey_I hk, run_findKey_I hk he, hpos, MapKept.run_setObj_map _ hb, Result.andThen]
    · simpa using a4
end

section
variable {P : Program} {w : World} {ops : Array Oper} {rest : List Oper} {o : Oper} {a : Act} {Q : Exit → Act → World → Prop}
/-- 'm[k] = v' -/
theorem wpList_updI {q : IntKind} {m : Nat} {L : List (Int × Value)} {k e : TypeId} (hgd : o.guard = none) (mo x v : Operand) (t : TypeId) (hop : o.op = .mapUpdate t mo x v) (ht : P.underlying t = some (.map k e)) (hk : P.underlying k = some (.int q))
    (h : IMap w q m L) (i : Int) (u : Value) (hm : a.eval mo = .map (some m)) (hx : a.eval x = .int q i) (hv : a.eval v = u)
    (hK : ∀ w', IMap w' q m (updI L i u) → Kept (fun k => k = m) w w' → wpList P ops Q rest (a.put o.dst undef) w') : wpList P ops Q (o :: rest) a w := by
  refine wpList_plain hgd fun K hKK => ?_
  obtain ⟨w', hrun, h1, h2⟩ := h.upd (P := P) ht hk i u
  unfold Oper.wp
  simp [execOp, hop, hm, hx, hv, hrun, Result.andThen]
  exact hKK _ _ (hK w' h1 h2)

/-- 'delete(m, k)' -/
theorem wpList_delI {q : IntKind} {m : Nat} {L : List (Int × Value)} {k e : TypeId} (hgd : o.guard = none) (mo x : Operand) (t tk : TypeId) (hop : o.op = .call { callee := .builtin .delete, args := #[mo, x], argTypes := #[t, tk] }) (ht : P.underlying t = some (.map k e)) (hk : P.underlying k = some (.int q))
    (h : IMap w q m L) (i : Int) (hm : a.eval mo = .map (some m)) (hx : a.eval x = .int q i)
    (hK : ∀ w', IMap w' q m (delI L i) → Kept (fun k => k = m) w w' → wpList P ops Q rest (a.put o.dst (.tuple #[])) w') : wpList P ops Q (o :: rest) a w := by
  refine wpList_plain hgd fun K hKK => ?_
  obtain ⟨w', hrun, h1, h2⟩ := h.del (P := P) ht hk i o.type #[t, tk] rfl
  unfold Oper.wp
  simp [execOp, hop, resolve, invoke, builtin, hm, hx, hrun, Result.andThen]
  exact hKK _ _ (hK w' h1 h2)
end

end Go.Proofs.YtlkgmcacbfoijaaGreat

