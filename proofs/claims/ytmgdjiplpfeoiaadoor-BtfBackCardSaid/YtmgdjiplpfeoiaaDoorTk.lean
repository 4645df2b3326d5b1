import Derived.Test.YtmgdjiplpfeoiaaDoorTn
import Derived.Test.YtmgdjiplpfeoiaaDoorTl
set_option linter.unusedSimpArgs false
set_option linter.unusedVariables false
namespace Go.Proofs.YtmgdjiplpfeoiaaDoor
open Go.RowKit

set_option maxHeartbeats 1000000 in
theorem check1_any (bl : Nat) (l : List Ty) (a : Option Addr) (c : Nat) (i : Nat) (w : World) (hb : Blk w bl 22 #[.slice a l.length c]) (h : Tys w (.slice a l.length c) l) (hf : Fit l) (hcl : Closed l) (hi : i < l.length) :
    Calls Tryd.prog 33 #[.int .i64 ((i : Int) + 1), .pointer (some ⟨bl, 0, none⟩)] w fun e w' => ∃ r, e = .returned (.bool r) ∧ (r = true ↔ Reach l ((i : Int) + 1) ((i : Int) + 1)) ∧ Kept (fun _ => False) w w' := by
  have hc := hb.cell 0
  go_enter Tryd.func33, Tryd.ntmps33
  go_wp2_with fail
  refine (round_any l a c i w h hf hcl hi).mono ?_
  rintro e w1 ⟨r, rfl, hr, hk⟩
  go_wp2_with fail
  go_ret
  exact ⟨r, rfl, hr, hk⟩

set_option maxHeartbeats 1000000 in
theorem check2_any (bl : Nat) (l : List Ty) (a : Option Addr) (c : Nat) (i : Nat) (t : Ty) (w : World) (hb : Blk w bl 22 #[.slice a l.length c]) (h : Tys w (.slice a l.length c) l) (hg : Good l) (ht : l[i]? = some t) :
    Calls Tryd.prog 35 #[.int .i64 ((i : Int) + 1), .pointer (some ⟨bl, 0, none⟩)] w fun e w' => e = .returned (.bool (functionsB l t)) ∧ Kept (fun _ => False) w w' := by
  have hc := hb.cell 0
  have hi := (List.getElem?_eq_some_iff.1 ht).1
  have h256 := hg.fit.len
  obtain ⟨g, off, mv, rfl, hgl, hm, c0, c1, c2, c3, c4, c5, c6⟩ := h.at_ ht
  obtain ⟨ma, mc, rfl⟩ := hm.any
  go_enter Tryd.func35, Tryd.ntmps35
  go_wp2_with fail
  refine wp_region_mix0 [.l, .l, .w, .w, .w, .l, .t, .w] (by kernel_rfl) (by kernel_rfl) ?_
  repeat (first
    | (refine mix_w1 ?_; go_big_quiet_step (fail); refine wpQuiet_nil ?_)
    | (refine mix_l1 rfl ?_; go_big_quiet_step (fail); refine wpQuiet_nil ?_))
  refine mix_t fun Q' hQ' => ?_
  go_wp2_with fail
  refine (functions_any l _ c i t ma mc _ (h.kept ((Kept.refl _ w).drew)) hg ht (hm.kept ((Kept.refl _ w).drew))).mono ?_
  rintro e w1 ⟨rfl, hk⟩
  go_wp2_with fail
  refine mix_w1 ?_
  go_big_quiet_step (fail)
  refine wpQuiet_nil ?_
  refine mix_done ?_
  go_wp2_with fail
  go_ret
  exact ⟨rfl, ((Kept.refl _ w).drew).trans hk (fun _ _ h => h)⟩

set_option maxHeartbeats 1000000 in
theorem check3_any (bl : Nat) (l : List Ty) (a : Option Addr) (c : Nat) (i : Nat) (t : Ty) (w : World) (hb : Blk w bl 22 #[.slice a l.length c]) (h : Tys w (.slice a l.length c) l) (hg : Good l) (ht : l[i]? = some t) :
    Calls Tryd.prog 37 #[.int .i64 ((i : Int) + 1), .pointer (some ⟨bl, 0, none⟩)] w fun e w' => e = .returned (.bool (!laidB l ((i : Int) + 1) t)) ∧ Kept (fun _ => False) w w' := by
  have hc := hb.cell 0
  go_enter Tryd.func37, Tryd.ntmps37
  go_wp2_with fail
  refine (laid_any l a c i t w h hg ht).mono ?_
  rintro e w1 ⟨rfl, hk⟩
  go_wp2_with fail
  go_ret
  exact ⟨rfl, hk⟩

/-! ### Check -/
structure Raw (l : List Ty) : Prop where
  len : l.length ≤ maxLen
  name : ∀ t ∈ l, t.name.length ≤ maxLen
  mname : ∀ t ∈ l, ∀ m ∈ t.mem, m.name.length ≤ maxLen
  bits : ∀ t ∈ l, ∀ m ∈ t.mem, -9223372036854775808 ≤ m.bits ∧ m.bits ≤ 9223372036854775807
def pA (l : List Ty) (i : Nat) : Bool := (l[i]?.map (aloneC l i)).getD 0 != 0
open Classical in
noncomputable def pR (l : List Ty) (i : Nat) : Bool := decide (Reach l ((i : Int) + 1) ((i : Int) + 1))
def pF (l : List Ty) (i : Nat) : Bool := (l[i]?.map (functionsB l)).getD false
def pL (l : List Ty) (i : Nat) : Bool := (l[i]?.map (fun t => !laidB l ((i : Int) + 1) t)).getD false
theorem firstF_next {p : Nat → Bool} {j : Nat} (h : firstF p j = none) : firstF p (j + 1) = if p j = true then some j else none := by
  unfold firstF at *
  rw [List.range_succ, List.find?_append, h]
  simp only [Option.none_or, List.find?_cons, List.find?_nil]
  cases p j <;> rfl
theorem firstF_some {p : Nat → Bool} {j n : Nat} (h : firstF p j = none) (hp : p j = true) (hn : j < n) : firstF p n = some j := by
  obtain ⟨d, rfl⟩ : ∃ d, n = j + 1 + d := ⟨n - (j + 1), by omega⟩
  have h1 := firstF_next h
  rw [if_pos hp] at h1
  unfold firstF at *
  rw [List.range_add, List.find?_append, h1]
  rfl
theorem check_many {l : List Ty} (h : ¬ 256 < l.length) {j : Nat} {t : Ty} (ht : l[j]? = some t) (h64 : 64 < t.mem.length) : checkL l = (0, 45) := by
  unfold checkL
  rw [if_neg h, if_pos]
  rw [List.any_eq_true]
  exact ⟨t, List.mem_of_getElem? ht, by simpa using h64⟩
theorem check_eq {l : List Ty} (h : ¬ 256 < l.length) (h64 : l.any (fun t => decide (64 < t.mem.length)) = false) : checkL l = match firstF (pA l) l.length with
    | some i => ((i : Int) + 1, (l[i]?.map (aloneC l i)).getD 0)
    | none => match firstF (pR l) l.length with
      | some i => ((i : Int) + 1, 42)
      | none => match firstF (pF l) l.length with
        | some i => ((i : Int) + 1, 41)
        | none => match firstF (pL l) l.length with
          | some i => ((i : Int) + 1, 43)
          | none => (0, 0) := by
  unfold checkL
  rw [if_neg h, if_neg (by rw [h64]; simp)]
  rfl
theorem firstF_none {p : Nat → Bool} {n i : Nat} (h : firstF p n = none) (hi : i < n) : p i = false := by
  unfold firstF at h
  have := List.find?_eq_none.1 h i (List.mem_range.2 hi)
  simpa using this

end Go.Proofs.YtmgdjiplpfeoiaaDoor
