import Derived.Test.YtahabogjfcdjkaaGreatCv
import Derived.Shelf.SlSortCmp.NoneTotal
import Derived.Shelf.Lay
import Derived.Ground.SlsfProg
set_option linter.unusedSimpArgs false
set_option linter.unusedVariables false
namespace Go.Proofs
open Go.Shelf
shelf_lay_g SlLaysF.n6 Slsf 6 at Tryz 59 as Tryz.sortB
end Go.Proofs

namespace Go.Proofs.YtahabogjfcdjkaaGreat
open Go.RowKit Go.Sort Go.Shelf

/-! ### the order of byte rows -/
theorem cb_refl : ∀ x : List UInt8, Lib.compareBytes x x = 0
  | [] => rfl
  | a :: x => by simp [Lib.compareBytes, cb_refl x]
theorem cb_eq : ∀ {x y : List UInt8}, Lib.compareBytes x y = 0 → x = y
  | [], [], _ => rfl
  | [], _ :: _, h => by simp [Lib.compareBytes] at h
  | _ :: _, [], h => by simp [Lib.compareBytes] at h
  | a :: x, b :: y, h => by
    unfold Lib.compareBytes at h
    by_cases h1 : a < b
    · simp [h1] at h
    · by_cases h2 : b < a
      · simp [h1, h2] at h
      · simp [h1, h2] at h
        have hab : a = b := by
          apply UInt8.toNat_inj.1
          rw [UInt8.lt_iff_toNat_lt] at h1 h2
          omega
        rw [hab, cb_eq h]
theorem cb_neg : ∀ x y : List UInt8, Lib.compareBytes y x = - Lib.compareBytes x y
  | [], [] => rfl
  | [], _ :: _ => rfl
  | _ :: _, [] => rfl
  | a :: x, b :: y => by
    have ih := cb_neg x y
    unfold Lib.compareBytes
    by_cases h1 : a < b
    · have h2 : ¬ b < a := by rw [UInt8.lt_iff_toNat_lt] at h1 ⊢; omega
      simp [h1, h2]
    · by_cases h2 : b < a
      · simp [h1, h2]
      · simp [h1, h2, ih]
theorem cb_trans : ∀ {x y z : List UInt8}, Lib.compareBytes x y < 0 → Lib.compareBytes y z < 0 → Lib.compareBytes x z < 0
  | [], [], _, h, _ => by simp [Lib.compareBytes] at h
  | [], _ :: _, [], _, h => by simp [Lib.compareBytes] at h
  | [], _ :: _, _ :: _, _, _ => by simp [Lib.compareBytes]
  | _ :: _, [], _, h, _ => by simp [Lib.compareBytes] at h
  | _ :: _, _ :: _, [], _, h => by simp [Lib.compareBytes] at h
  | a :: x, b :: y, c :: z, h, h' => by
    unfold Lib.compareBytes at h h' ⊢
    simp only [UInt8.lt_iff_toNat_lt] at h h' ⊢
    by_cases h1 : a.toNat < b.toNat
    · by_cases h2 : c.toNat < b.toNat
      · have : ¬ b.toNat < c.toNat := by omega
        simp [this, h2] at h'
      · have : a.toNat < c.toNat := by
          by_cases h3 : b.toNat < c.toNat <;> omega
        simp [this]
    · by_cases h2 : b.toNat < a.toNat
      · simp [h1, h2] at h
      · have e : a.toNat = b.toNat := by omega
        simp only [h1, h2, if_false] at h
        by_cases h3 : b.toNat < c.toNat
        · have : a.toNat < c.toNat := by omega
          simp [this]
        · by_cases h4 : c.toNat < b.toNat
          · simp [h3, h4] at h'
          · simp only [h3, h4, if_false] at h'
            have h5 : ¬ a.toNat < c.toNat := by omega
            have h6 : ¬ c.toNat < a.toNat := by omega
            simp only [h5, h6, if_false]
            exact cb_trans h h'

theorem swoB {α : Type} (f : α → List UInt8) : SWO (ltOf fun x y => Lib.compareBytes (f x) (f y)) where
  irrefl x := by simp [ltOf, cb_refl]
  trans x y z h1 h2 := by
    simp only [ltOf, decide_eq_true_eq] at *
    exact cb_trans h1 h2
  ntrans x y z h1 h2 := by
    simp only [ltOf, decide_eq_false_iff_not] at *
    intro h
    rcases Int.lt_trichotomy (Lib.compareBytes (f x) (f y)) 0 with h3 | h3 | h3
    · exact h1 h3
    · rw [cb_eq h3] at h
      exact h2 h
    · have h4 : Lib.compareBytes (f y) (f x) < 0 := by rw [cb_neg (f x)]; omega
      exact h2 (cb_trans h4 h)

/-! ### the row behind the sort -/
section
variable {α : Type} [Inhabited α] {enc : α → Value} {w : World} {g m : Nat} {os : Array Obj} {d : Array α}
theorem heap_sortWorld {cur : Array Value} {e : TypeId} {fr : Nat × Nat} (hb : w.heap[g]? = some (.cells cur e fr)) :
    (sortWorld enc w g 0 m d os).heap[g]? = some (.cells (putCells enc 0 d cur) e fr) := by
  have hg : g < w.heap.size := (Array.getElem?_eq_some_iff.1 hb).1
  unfold sortWorld
  rw [heap_grow_old _ _ (by simpa using hg)]
  simp [putRow, mapBlock, Sort.ahead, Array.getElem?_modify, hb, onCells]
theorem kept_sortWorld : Kept (fun k => k = g) w (sortWorld enc w g 0 m d os) := by
  unfold sortWorld
  refine ⟨rfl, rfl, rfl, by simp, fun k hk hne => ?_⟩
  rw [heap_grow_old _ _ (by simpa using hk)]
  have : g ≠ k := fun e => hne e.symm
  simp [putRow, mapBlock, Sort.ahead, Array.getElem?_modify, this]
theorem take_putCellsG (cur : Array Value) (ts : Array α) (h : ts.size ≤ cur.size) : (putCells enc 0 ts cur).toList.take ts.size = ts.toList.map enc := by
  apply List.ext_getElem?
  intro j
  by_cases hj : j < ts.size
  · rw [List.getElem?_take_of_lt hj, Array.getElem?_toList]
    simp [putCells, hj, show j < cur.size by omega]
  · rw [List.getElem?_take_eq_none (by omega), List.getElem?_eq_none (by simp; omega)]
end

def kcell (y : Value × List UInt8) : List Value := [y.1]
theorem kflat : ∀ R : List (Value × List UInt8), (R.map kcell).flatten = R.map (·.1)
  | [] => rfl
  | y :: R => by simp only [List.map_cons, List.flatten_cons, kflat R]; rfl

theorem sorted_sub {α : Type} [Inhabited α] (lt : α → α → Bool) (d : Array α) (h : SortedIn lt 0 d.size d) : d.toList.Pairwise fun x y => lt y x = false := by
  rw [List.pairwise_iff_getElem]
  intro i j hi hj hij
  have hi' : i < d.size := by simpa using hi
  have hj' : j < d.size := by simpa using hj
  have := h i j (Nat.zero_le _) hij hj'
  rw [getElem!_pos d i hi', getElem!_pos d j hj'] at this
  simpa using this

/-- slices.SortFunc(rows, bytes.Compare) -/
theorem sort_any (R : List (Value × List UInt8)) (v : Value) (w : World) (hS : Sl w 39 1 v (R.map kcell)) (hB : ∀ y ∈ R, By w y.1 y.2) (hne : ∀ y ∈ R, ∀ g, y.1.ownBlock = some g → v.ownBlock ≠ some g) (hlen : R.length < 1073741824) :
    Calls Tryz.prog 59 #[v, .func (.func 60) #[] #[]] w fun e w' => e = .returned (.tuple #[]) ∧ ∃ R' : List (Value × List UInt8), R'.Perm R ∧ (R'.map (·.2)).Pairwise (fun a b => 0 ≤ Lib.compareBytes b a) ∧ Sl w' 39 1 v (R'.map kcell) ∧ Kept (fun k => v.ownBlock = some k) w w' := by
  by_cases h0 : R = []
  · subst h0
    obtain ⟨A, c, rfl⟩ := hS.any
    have h := AnyF.slices_SortFunc_none (P := Tryz.prog) (ρ := Tryz.sortB_ren) { Tryz.sortB with } A c (.func (.func 60) #[] #[]) w
    exact h.mono fun e w' ⟨he, hw⟩ => ⟨he, [], List.Perm.refl _, List.Pairwise.nil, by rw [hw]; exact hS, by rw [hw]; exact Kept.refl _ _⟩
  obtain ⟨y0, hy0⟩ : ∃ y, y ∈ R := by
    cases R with
    | nil => exact absurd rfl h0
    | cons y R => exact ⟨y, List.mem_cons_self ..⟩
  rcases hS.2.2 with ⟨rfl, hn⟩ | ⟨g, cap, cur, rfl, _, hg, hc1, hc2, hc3, hc4⟩
  · exact absurd (List.eq_nil_of_length_eq_zero (by simpa using hn)) h0
  rw [kflat, Nat.mul_one, List.length_map] at hc4
  rw [List.length_map] at hc1 ⊢
  have : Inhabited {y // y ∈ R} := ⟨⟨y0, hy0⟩⟩
  let enc : {y // y ∈ R} → Value := fun y => y.1.1
  let cf : {y // y ∈ R} → {y // y ∈ R} → Int := fun x y => Lib.compareBytes x.1.2 y.1.2
  have h1 : OneCell enc := fun x => by
    obtain ⟨A, c, e⟩ := (hB x.1 x.2).any
    show x.1.1.oneCell' = true
    rw [e]
    rfl
  have hsz : R.attach.toArray.size = R.length := by simp
  have hcmp : CmpReads Tryz.prog 60 #[] enc cf g 0 R.attach.toArray.size w := fun m os dk _ x y => by
    have hk : Kept (fun k => k = g) w (sortWorld enc w g 0 m dk os) := kept_sortWorld
    have hx := (hB x.1 x.2).kept hk (fun k hk e => hne x.1 x.2 k hk (by rw [e]; rfl))
    have hy := (hB y.1 y.2).kept hk (fun k hk e => hne y.1 y.2 k hk (by rw [e]; rfl))
    exact (compare_any x.1.1 y.1.1 x.1.2 y.1.2 _ hx hy).mono fun e w' ⟨he, hw⟩ => ⟨he, 0, hw⟩
  have hH : Holds enc w g 0 R.attach.toArray := fun j hj => by
    have hj' : j < R.length := by simpa using hj
    have e1 : R.attach.toArray[j]! = ⟨R[j], List.getElem_mem hj'⟩ := by
      rw [getElem!_pos _ j hj]
      simp
    rw [e1]
    refine ⟨?_, hS.frozen _⟩
    have := hS.cell (i := j) (c := kcell R[j]) (by simp [hj']) (k := 0) (by omega)
    simpa [kcell] using this
  have h := Any.slices_SortFunc Tryz.sortB enc h1 cf (swoB fun y : {y // y ∈ R} => y.1.2) 60 #[] g 0 cap R.attach.toArray w (enters_of Tryz.func60 (by kernel_rfl) rfl) hcmp.lays hH (Array.getElem?_eq_some_iff.1 hg).1 (by rw [hsz]; omega)
  rw [hsz] at h
  refine h.mono fun e w' ⟨he, d', n, os, hp, hs, hw⟩ => ⟨he, d'.toList.map (·.1), ?_, ?_, ?_, ?_⟩
  · have h2 := hp.2.2
    have hd : d'.size = R.length := hp.1.trans hsz
    rw [show d'.extract 0 R.length = d' by rw [← hd]; simp, show R.attach.toArray.extract 0 R.length = R.attach.toArray from (congrArg (fun n => R.attach.toArray.extract 0 n) hsz.symm).trans (Array.extract_size)] at h2
    have h3 := h2.map (·.1)
    rw [show (R.attach.toArray.toList.map fun x => x.1) = R from List.attach_map_subtype_val R] at h3
    exact h3
  · have hd : d'.size = R.length := hp.1.trans hsz
    have := sorted_sub _ d' (by rw [hd]; exact hs)
    rw [List.map_map, List.pairwise_map]
    exact this.imp fun {a b} h => by
      simp only [ltOf, decide_eq_false_iff_not] at h
      exact Int.not_lt.1 h
  · have hd : d'.size = R.length := hp.1.trans hsz
    have hl : (d'.toList.map (·.1)).length = R.length := by simp [hd]
    refine ⟨fun c hc => ?_, ?_⟩
    · obtain ⟨y, _, rfl⟩ := List.mem_map.1 hc
      rfl
    · rw [hw, kflat, List.length_map, hl]
      refine ⟨by simp [hd], .inr ⟨g, cap, _, rfl, Nat.zero_le _, heap_sortWorld hg, hc1, hc2, by simp [putCells, hc3], ?_⟩⟩
      rw [Nat.mul_one, ← hd, take_putCellsG _ _ (by omega)]
      simp [enc]
  · rw [hw]
    exact (kept_sortWorld (g := g)).mono (fun k _ e => by rw [e]; rfl)

end Go.Proofs.YtahabogjfcdjkaaGreat
