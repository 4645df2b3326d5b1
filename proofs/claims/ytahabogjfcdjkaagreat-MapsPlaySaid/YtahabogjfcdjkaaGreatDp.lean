import Derived.Test.YtahabogjfcdjkaaGreatDo
import Derived.Test.YtahabogjfcdjkaaGreatUp
set_option linter.unusedSimpArgs false
set_option linter.unusedVariables false
namespace Go.Proofs.YtahabogjfcdjkaaGreat
open Go.RowKit

/-! ### the two maps in plain -/
theorem lookS_of_mem {α : Type} {k : List UInt8} {u : α} : ∀ {l : List (List UInt8 × α)}, (l.map (·.1)).Nodup → (k, u) ∈ l → lookS l k = some u
  | [], _, h => by cases h
  | (a, b) :: l, hn, h => by
    have hn' := List.nodup_cons.1 hn
    simp only [lookS]
    rcases List.mem_cons.1 h with e | h
    · cases e; rw [if_pos rfl]
    · rw [if_neg (fun e => hn'.1 (List.mem_map.2 ⟨(k, u), h, e.symm⟩))]
      exact lookS_of_mem hn'.2 h
theorem lookS_perm {α : Type} {k : List UInt8} {l m : List (List UInt8 × α)} (hp : l.Perm m) (hn : (l.map (·.1)).Nodup) : lookS l k = lookS m k := by
  cases h : lookS m k with
  | none => exact lookS_no fun y hy => lookS_none_all h y (hp.mem_iff.1 hy)
  | some u => exact lookS_of_mem hn (hp.mem_iff.2 (lookS_mem h))
theorem delS_filter {α : Type} {k : List UInt8} : ∀ {l : List (List UInt8 × α)}, (l.map (·.1)).Nodup → delS l k = l.filter (fun y => decide (y.1 ≠ k))
  | [], _ => rfl
  | (a, b) :: l, hn => by
    have hn' := List.nodup_cons.1 hn
    simp only [delS]
    by_cases e : a = k
    · rw [if_pos e, List.filter_cons]
      simp only [e, ne_eq, not_true_eq_false, decide_false]
      rw [if_neg (by simp)]
      symm
      refine List.filter_eq_self.2 fun y hy => ?_
      simp only [decide_eq_true_eq]
      exact fun e2 => hn'.1 (List.mem_map.2 ⟨y, hy, by simp only [e2, e]⟩)
    · rw [if_neg e, List.filter_cons]
      rw [if_pos (by simpa using e), delS_filter hn'.2]
theorem sorted_nodup {l : List (List UInt8)} (h : l.Pairwise (fun a b => Lib.compareBytes a b < 0)) : l.Nodup :=
  h.imp fun {a b} hab e => by subst e; rw [cb_refl] at hab; exact absurd hab (by decide)

abbrev See := List UInt8 × Bool × Int × Bool
structure Rel (S R : MS) (C : List See) : Prop where
  d : R.d = S.d
  pg : R.progs = S.progs
  pm : R.ent.Perm S.ent
  so : (R.ent.map (·.1)).Pairwise (fun a b => Lib.compareBytes a b < 0)
  nd : (S.ent.map (·.2)).Nodup
  ids : ∀ y ∈ S.ent, y.2 ≤ (C.length : Int)
  few : (S.ent.length : Int) ≤ S.d.entries
  en : S.d.entries ≤ 64
  ok : S.d.kind ≠ 3 → 1 ≤ S.d.key ∧ ∃ vn : Nat, S.d.value = vn ∧ 0 < vn ∧ vn ≤ 256 ∧ hidN S.d.timer ≤ vn
  pl : S.progs.length ≤ 64
  no3 : S.d.kind = 3 → S.ent = []

section
variable {S R : MS} {C : List See}
theorem Rel.rnd (h : Rel S R C) : (R.ent.map (·.1)).Nodup := sorted_nodup h.so
theorem Rel.snd (h : Rel S R C) : (S.ent.map (·.1)).Nodup := (h.pm.map (·.1)).nodup_iff.1 h.rnd
theorem Rel.look (h : Rel S R C) (k : List UInt8) : lookS R.ent k = lookS S.ent k := lookS_perm h.pm h.rnd
theorem Rel.len (h : Rel S R C) : R.ent.length = S.ent.length := h.pm.length_eq
theorem Rel.ref (h : Rel S R C) (ok : Bool) (flags : Int) : refC R ok flags = refC S ok flags := by
  unfold refC
  rw [h.d, h.len]
/-- sorted rows with the same members are the same -/
theorem sorted_eq : ∀ {l m : List (List UInt8)}, l.Perm m → l.Pairwise (fun a b => 0 ≤ Lib.compareBytes b a) → m.Pairwise (fun a b => Lib.compareBytes a b < 0) → l = m
  | [], m, hp, _, _ => by rw [List.nil_perm.1 hp]
  | a :: l, [], hp, _, _ => by simpa using hp.length_eq
  | a :: l, b :: m, hp, hl, hm => by
    have hl' := List.pairwise_cons.1 hl
    have hm' := List.pairwise_cons.1 hm
    have hab : a = b := by
      have ha : a ∈ b :: m := hp.mem_iff.1 (List.mem_cons_self ..)
      have hb : b ∈ a :: l := hp.mem_iff.2 (List.mem_cons_self ..)
      rcases List.mem_cons.1 ha with e | ha
      · exact e
      · rcases List.mem_cons.1 hb with e | hb
        · exact e.symm
        · have h1 := hm'.1 a ha
          have h2 := hl'.1 b hb
          omega
    subst hab
    rw [sorted_eq (List.Perm.cons_inv hp) hl'.2 hm'.2]
theorem Rel.mem_id (h : Rel S R C) {k k' : List UInt8} {id : Int} (h1 : (k, id) ∈ S.ent) (h2 : (k', id) ∈ S.ent) : k = k' := by
  have hn := h.nd
  generalize S.ent = l at *
  clear h
  induction l with
  | nil => cases h1
  | cons y l ih =>
    have hn' := List.nodup_cons.1 hn
    rcases List.mem_cons.1 h1 with e1 | h1 <;> rcases List.mem_cons.1 h2 with e2 | h2
    · rw [← e1] at e2; cases e2; rfl
    · exact absurd (List.mem_map.2 ⟨(k', id), h2, by rw [← e1]⟩) hn'.1
    · exact absurd (List.mem_map.2 ⟨(k, id), h1, by rw [← e2]⟩) hn'.1
    · exact ih h1 h2 hn'.2

/-! #### Set -/
theorem Rel.set (h : Rel S R C) (i p : Int) : Rel (setS S i p) (setS R i p) C := by
  have e : setC R i p = setC S i p := by unfold setC; rw [h.d, h.pg]
  unfold setS
  rw [e]
  split
  · exact ⟨h.d, by rw [h.pg], h.pm, h.so, h.nd, h.ids, h.few, h.en, h.ok, by simpa using h.pl, h.no3⟩
  · exact h
/-! #### Delete -/
theorem Rel.del (h : Rel S R C) (k : List UInt8) : Rel { S with ent := delS S.ent k } { R with ent := delS R.ent k } C where
  d := h.d
  pg := h.pg
  pm := by
    show (delS R.ent k).Perm (delS S.ent k)
    rw [delS_filter h.rnd, delS_filter h.snd]
    exact h.pm.filter _
  so := by
    show ((delS R.ent k).map (·.1)).Pairwise _
    rw [delS_filter h.rnd]
    exact h.so.sublist (List.filter_sublist.map _)
  nd := by
    show ((delS S.ent k).map (·.2)).Nodup
    rw [delS_filter h.snd]
    exact h.nd.sublist (List.filter_sublist.map _)
  ids := fun y hy => h.ids y (delS_sub hy)
  few := by
    have := delS_len S.ent k
    have := h.few
    show ((delS S.ent k).length : Int) ≤ S.d.entries
    omega
  en := h.en
  ok := h.ok
  pl := h.pl
  no3 := fun h3 => by
    show delS S.ent k = []
    rw [h.no3 h3]
    rfl
/-! #### Update -/
theorem ins_sorted {E : List (List UInt8 × Int)} {k : List UInt8} {p : Nat} (hi : InsAt E k p) (hs : (E.map (·.1)).Pairwise (fun a b => Lib.compareBytes a b < 0)) (hn : lookS E k = none) (n : Int) : ((E.take p ++ (k, n) :: E.drop p).map (·.1)).Pairwise (fun a b => Lib.compareBytes a b < 0) := by
  rw [List.pairwise_map] at hs ⊢
  have ht := hs.sublist (List.take_sublist p E)
  have hd := hs.sublist (List.drop_sublist p E)
  have hall := lookS_none_all hn
  have hlo : ∀ z ∈ E.take p, Lib.compareBytes z.1 k < 0 := fun z hz => by
    obtain ⟨j, hj, e⟩ := List.mem_iff_getElem.1 hz
    have hjp : j < p := by simp at hj; omega
    refine hi.lo j z hjp ?_
    rw [← e, List.getElem_take, List.getElem?_eq_getElem]
  have hhi : ∀ z ∈ E.drop p, Lib.compareBytes k z.1 < 0 := fun z hz => by
    cases hd0 : E.drop p with
    | nil => rw [hd0] at hz; cases hz
    | cons y r =>
      have hy : E[p]? = some y := by
        have := congrArg (fun l => l[0]?) hd0
        simpa using this
      have h0 := hi.hi y hy
      have hyk : Lib.compareBytes k y.1 < 0 := by
        have hne : Lib.compareBytes y.1 k ≠ 0 := fun e => hall y (List.mem_of_getElem? hy) (cb_eq e)
        have := cb_neg y.1 k
        omega
      rw [hd0] at hz hd
      rcases List.mem_cons.1 hz with rfl | hz
      · exact hyk
      · exact cb_trans hyk ((List.pairwise_cons.1 hd).1 z hz)
  refine List.pairwise_append.2 ⟨ht, List.pairwise_cons.2 ⟨hhi, hd⟩, fun a ha b hb => ?_⟩
  rcases List.mem_cons.1 hb with rfl | hb
  · exact hlo a ha
  · exact cb_trans (hlo a ha) (hhi b hb)
theorem Rel.ins (h : Rel S R C) {k : List UInt8} {p : Nat} (hi : InsAt R.ent k p) (hn : lookS S.ent k = none) (hf : (S.ent.length : Int) < S.d.entries) (h3 : S.d.kind ≠ 3) (c : See) : Rel { S with ent := S.ent ++ [(k, (C.length : Int) + 1)] } { R with ent := R.ent.take p ++ (k, (C.length : Int) + 1) :: R.ent.drop p } (C ++ [c]) where
  d := h.d
  pg := h.pg
  pm := by
    show (R.ent.take p ++ (k, (C.length : Int) + 1) :: R.ent.drop p).Perm (S.ent ++ [(k, (C.length : Int) + 1)])
    refine List.perm_middle.trans ?_
    rw [List.take_append_drop]
    exact (h.pm.cons _).trans (List.perm_append_singleton _ _).symm
  so := ins_sorted hi h.so (by rw [h.look]; exact hn) _
  nd := by
    show ((S.ent ++ [(k, (C.length : Int) + 1)]).map (·.2)).Nodup
    rw [List.map_append]
    refine List.nodup_append.2 ⟨h.nd, by simp, fun a ha b hb e => ?_⟩
    obtain ⟨y, hy, rfl⟩ := List.mem_map.1 ha
    simp only [List.map_cons, List.map_nil, List.mem_singleton] at hb
    have := h.ids y hy
    omega
  ids := fun y hy => by
    rw [List.length_append]
    rcases List.mem_append.1 hy with hy | hy
    · have := h.ids y hy
      simp only [List.length_cons, List.length_nil]
      omega
    · rw [List.mem_singleton.1 hy]
      simp
  few := by
    show ((S.ent ++ [(k, (C.length : Int) + 1)]).length : Int) ≤ S.d.entries
    rw [List.length_append]
    simp only [List.length_cons, List.length_nil]
    omega
  en := h.en
  ok := h.ok
  pl := h.pl
  no3 := fun h' => absurd h' h3
theorem Rel.mod (h : Rel S R C) (i : Nat) (f : See → See) : Rel S R (C.modify i f) :=
  ⟨h.d, h.pg, h.pm, h.so, h.nd, fun y hy => by rw [List.length_modify]; exact h.ids y hy, h.few, h.en, h.ok, h.pl, h.no3⟩
end

/-! ### an update, with all its ways -/
def okU (S : MS) (k l : List UInt8) : Prop := asksC S.d k.length = 0 ∧ (l.length : Int) = S.d.value
instance (S : MS) (k l : List UInt8) : Decidable (okU S k l) := by unfold okU; infer_instance
def codU (S : MS) (k l : List UInt8) (flags : Int) : Int := if asksC S.d k.length ≠ 0 then asksC S.d k.length else if (l.length : Int) ≠ S.d.value then 91 else refC S (lookS S.ent k).isSome flags
def staU (S : MS) (n : Nat) (k l : List UInt8) (flags : Int) : MS := if okU S k l then upS S n k flags else S
def seeU (S : MS) (C : List See) (k l : List UInt8) (flags : Int) : List See := if okU S k l then upC S C k l flags else C
theorem codU_ok {S : MS} {k l : List UInt8} {flags : Int} (h : okU S k l) : codU S k l flags = refC S (lookS S.ent k).isSome flags := by
  unfold codU
  rw [if_neg (fun hn => hn h.1), if_neg (fun hn => hn h.2)]

end Go.Proofs.YtahabogjfcdjkaaGreat
