import Derived.Test.YtahabogjfcdjkaaGreatKno
set_option linter.unusedSimpArgs false
set_option linter.unusedVariables false
namespace Go.Proofs.YtahabogjfcdjkaaGreat
open Go.RowKit

/-! ### Update, all its ways at once, on a map that is no row of programs -/
/-- what one sees of a region -/
def Rg.see (r : Rg) : List UInt8 × Bool × Int × Bool := (r.b, r.wr, r.hid, r.dead)

def upS (S : MS) (n : Nat) (k : List UInt8) (flags : Int) : MS :=
  if refC S (lookS S.ent k).isSome flags ≠ 0 then S else if (lookS S.ent k).isSome = true then S else { S with ent := S.ent ++ [(k, (n : Int) + 1)] }
def upC (S : MS) (C : List (List UInt8 × Bool × Int × Bool)) (k l : List UInt8) (flags : Int) : List (List UInt8 × Bool × Int × Bool) :=
  if refC S (lookS S.ent k).isSome flags ≠ 0 then C else
    match lookS S.ent k with
    | some id => C.modify (id - 1).toNat fun c => (c.1.take (hidN S.d.timer) ++ l.drop (hidN S.d.timer), c.2)
    | none => C ++ [(List.replicate (hidN S.d.timer) 0 ++ l.drop (hidN S.d.timer), true, ((hidN S.d.timer : Nat) : Int), false)]

theorem see_set {L : List Rg} {i : Nat} {r : Rg} (hi : L[i]? = some r) (b : List UInt8) : (L.set i { r with b := b }).map Rg.see = (L.map Rg.see).modify i fun c => (b, c.2) := by
  apply List.ext_getElem?
  intro j
  rw [List.getElem?_map, List.getElem?_set, List.getElem?_modify, List.getElem?_map]
  by_cases e : i = j
  · subst e
    have hl := (List.getElem?_eq_some_iff.1 hi).1
    simp [hl, hi, Rg.see]
    rw [List.getElem?_eq_some_iff.1 hi |>.2]
    exact ⟨rfl, rfl, rfl⟩
  · simp [e]

theorem update_all (x : Loc) (S : MS) (L : List Rg) (kv bv : Value) (k l : List UInt8) (flags : Int) (w : World) (h : Mp w x S L) (hk : By w kv k) (hkx : ∀ g, kv.ownBlock = some g → g ∉ blM x.mp x.v L) (hb : By w bv l) (ha : asksC S.d k.length = 0) (hl : (l.length : Int) = S.d.value)
    (hh : hidN S.d.timer ≤ l.length) (hpos : 0 < l.length) (hl6 : l.length ≤ 1000000) (hs : L.length < 100000) (hf : S.ent.length < 1000000) :
    Calls Tryz.prog 16 #[.pointer (some ⟨x.q, 0, none⟩), kv, bv, .int .u64 flags] w fun e w' => ∃ v' L', e = .returned (.int .i64 (refC S (lookS S.ent k).isSome flags)) ∧
      Mp w' { x with v := v' } (upS S L.length k flags) L' ∧ L'.map Rg.see = upC S (L.map Rg.see) k l flags ∧ (∀ n, fpMp { x with v := v' } L' n → fpMp x L n ∨ w.heap.size ≤ n) ∧ Kept (fun n => fpMp x L n) w w' := by
  by_cases hr : refC S (lookS S.ent k).isSome flags ≠ 0
  · refine (update_refused x S L kv bv k l flags w h hk hb ha hl hr).mono ?_
    rintro e w' ⟨he, n, rfl⟩
    refine ⟨x.v, L, he, ?_, ?_, fun n hn => .inl hn, (Kept.refl _ w).drewN n⟩
    · unfold upS
      rw [if_pos hr]
      exact h.drewN n
    · unfold upC
      rw [if_pos hr]
  · have hr0 : refC S (lookS S.ent k).isSome flags = 0 := Classical.not_not.1 hr
    cases hlk : lookS S.ent k with
    | some id =>
      obtain ⟨i, r, hid, hi, hrl⟩ := h.ids _ (lookS_mem hlk)
      simp only at hid
      subst hid
      rw [hlk] at hr0
      refine (update_old x S L kv bv k l flags w h hk hb ha hl hlk hi (by omega) hr0 hh hpos).mono ?_
      rintro e w' ⟨rfl, hM, hbl, hk'⟩
      refine ⟨x.v, L.set i { r with b := r.b.take (hidN S.d.timer) ++ l.drop (hidN S.d.timer) }, congrArg (fun z => Ending.returned (.int .i64 z)) hr0.symm, ?_, ?_, fun n hn => ?_, hk'.mono (fun n _ e => .inr (.inr (.inr e)))⟩
      · unfold upS
        rw [hlk, if_neg (by rw [hr0]; simp)]
        exact hM
      · unfold upC
        rw [hlk, if_neg (by rw [hr0]; simp), see_set hi]
        simp only
        rw [show ((i : Int) + 1 - 1).toNat = i by omega]
        apply List.ext_getElem?
        intro j
        rw [List.getElem?_modify, List.getElem?_modify]
        by_cases e : i = j
        · subst e
          simp [hi, Rg.see]
        · simp [e]
      · rcases hn with h | h | h | h
        · exact .inl (.inl h)
        · exact .inl (.inr (.inl h))
        · exact .inl (.inr (.inr (.inl h)))
        · exact .inl (.inr (.inr (.inr (by rw [← hbl]; exact h))))
    | none =>
      rw [hlk] at hr0
      refine (update_new x S L kv bv k l flags w h hk hkx hb ha hl hlk hr0 hh hpos hl6 hs hf).mono ?_
      rintro e w' ⟨rfl, v', g, cv, hM, hF, hk'⟩
      refine ⟨v', L ++ [⟨g, cv, List.replicate (hidN S.d.timer) 0 ++ l.drop (hidN S.d.timer), true, ((hidN S.d.timer : Nat) : Int), false⟩], congrArg (fun z => Ending.returned (.int .i64 z)) hr0.symm, ?_, ?_, hF, hk'.mono (fun n _ e => by
        rcases e with e | e
        · exact .inr (.inl e)
        · exact .inr (.inr (.inr e)))⟩
      · unfold upS
        rw [hlk, if_neg (by rw [hr0]; simp), if_neg (by simp)]
        exact hM
      · unfold upC
        rw [hlk, if_neg (by rw [hr0]; simp)]
        simp [Rg.see]

end Go.Proofs.YtahabogjfcdjkaaGreat
