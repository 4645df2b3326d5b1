import Derived.Test.YtlkgmcacbfoijaaGreatZat
import Derived.Test.YtlkgmcacbfoijaaGreatMh
import Derived.Laws.EntriesVeiled
set_option linter.unusedSimpArgs false
set_option linter.unusedVariables false
namespace Go.Proofs.YtlkgmcacbfoijaaGreat
open Go.RowKit

/-! ### flow.Calls -/
def idxG (tg : Int) : List Pt2 → Nat → Int
  | [], _ => -1
  | p :: r, i => if (p.1 == tg) = true then i else idxG tg r (i + 1)
set_option maxHeartbeats 4000000 in
set_option maxRecDepth 100000 in
theorem from_any (f t tg : Int) (p : Nat) (w : World) (hp : w.cell? ⟨p, 0, none⟩ = some (.int .i64 tg)) (hlt : p < w.heap.size) :
    Calls Tryz.prog 70 #[.agg #[.int .i64 f, .int .i64 t], .pointer (some ⟨p, 0, none⟩)] w fun e w' => e = .returned (.bool (f == tg)) ∧ Kept (fun _ => False) w w' := by
  go_enter Tryz.func70, Tryz.ntmps70
  go_wp2_with fail
  go_ret
  exact ⟨rfl, (Kept.refl _ w).alloc _⟩
set_option maxHeartbeats 8000000 in
set_option maxRecDepth 100000 in
theorem indexFunc_any (P : List Pt2) (pv : Value) (tg : Int) (p : Nat) (w : World) (hP : Pts w pv P) (hlen : P.length ≤ 1000000) (hp : w.cell? ⟨p, 0, none⟩ = some (.int .i64 tg)) (hlt : p < w.heap.size) :
    Calls Tryz.prog 69 #[pv, .func (.func 70) #[] #[.pointer (some ⟨p, 0, none⟩)]] w fun e w' => e = .returned (.int .i64 (idxG tg P 0)) ∧ Kept (fun _ => False) w w' := by
  obtain ⟨pa, pc, rfl⟩ := Sl.any hP
  rw [List.length_map] at hP ⊢
  obtain ⟨R, hR⟩ : ∃ R, idxG tg P 0 = R := ⟨_, rfl⟩
  rw [hR]
  have HF := Lib.hid (fun f t W h1 h2 => from_any f t tg p W h1 h2)
  have HP := Lib.hid hP
  have HR := Lib.hid hR
  have HPC := Lib.hid hp
  clear hP hR hp
  go_enter Tryz.func69, Tryz.ntmps69
  go_wp2_with fail
  go_loopw [8] (fun iv wr => ∃ i : Nat, iv = .int .i64 i ∧ i ≤ P.length ∧ idxG tg (P.drop i) i = R ∧ Kept (fun _ => False) w wr) (fun iv _ => P.length - (intOf iv).toNat)
  case atStart => exact ⟨0, rfl, by omega, HR.out, Kept.refl _ w⟩
  case round =>
    obtain ⟨i, rfl, hi, hr, hK⟩ := hrel
    have HS := Lib.hid hr
    have HK := Lib.hid hK
    clear hr hK HR
    by_cases hil : i < P.length
    case neg =>
      obtain rfl : i = P.length := by omega
      have hdl : decide ((P.length : Int) < P.length) = false := decide_eq_false (by omega)
      have hR : -1 = R := by have := HS.out; rwa [List.drop_length] at this
      subst hR
      go_wp2_with fail
      go_ret
      exact ⟨rfl, HK.out⟩
    case pos =>
      have hdl : decide ((i : Int) < P.length) = true := decide_eq_true (by omega)
      obtain ⟨⟨f, t⟩, hx⟩ : ∃ x, P[i]? = some x := ⟨_, List.getElem?_eq_getElem hil⟩
      have hd : P.drop i = (f, t) :: P.drop (i + 1) := by
        obtain ⟨hi', e⟩ := List.getElem?_eq_some_iff.1 hx
        rw [← e]
        exact List.drop_eq_getElem_cons hi'
      obtain ⟨sg, scap, hsv, hgl, hc0, hc1⟩ := Pts.at_ (Sl.kept HK.out HP.out (fun g hg h => h)) hx
      cases hsv
      have hFC := Lib.hid (HF.out f t wr ((HK.out.cell (p := ⟨p, 0, none⟩) hlt id).trans HPC.out) (Nat.lt_of_lt_of_le hlt HK.out.size))
      have HS1 : Hid ((if (f == tg) = true then (i : Int) else idxG tg (P.drop (i + 1)) (i + 1)) = R) := Lib.hid (by have := HS.out; rw [hd] at this; exact this)
      clear HS hx hd
      cases q : (f == tg)
      case true =>
        have hR := HS1.out
        rw [if_pos q] at hR
        subst hR
        rw [q] at hFC
        clear HS1 q
        go_wp2_with fail
        refine hFC.out.mono ?_
        rintro e w8 ⟨rfl, hk8⟩
        go_wp2_with fail
        go_ret
        exact ⟨rfl, HK.out.trans hk8 (fun _ _ h => h)⟩
      case false =>
        have HN : Hid (idxG tg (P.drop (i + 1)) (i + 1) = R) := Lib.hid (by have := HS1.out; rwa [if_neg (by rw [q]; decide)] at this)
        rw [q] at hFC
        clear HS1 q
        go_wp2_with fail
        refine hFC.out.mono ?_
        rintro e w8 ⟨rfl, hk8⟩
        go_wp2_with fail
        go_roundw
        case rel => exact ⟨i + 1, by simp, by omega, HN.out, HK.out.trans hk8 (fun _ _ h => h)⟩
        case measure => (simp [intOf]; omega)
/-- what a slot names, as subprograms -/
noncomputable def nmAt (l : List In) (i : Nat) : List Int := match l[i]? with
  | some x => match namC i x with
    | some t => @ite _ (Rch l i) (Classical.propDecidable _) [idxG t (partsL l) 0] []
    | none => []
  | none => []
theorem nmAt_not {l : List In} {i : Nat} {x : In} (hx : l[i]? = some x) (h : ¬ Rch l i) : nmAt l i = [] := by
  unfold nmAt
  rw [hx]
  simp only
  split
  · exact @if_neg _ (Classical.propDecidable _) h _ _ _
  · rfl
noncomputable def rawL (l : List In) (f n : Nat) : List Int := (List.range (n - f)).flatMap fun d => nmAt l (f + d)
theorem rawL_succ (l : List In) {f n : Nat} (h : f ≤ n) : rawL l f (n + 1) = rawL l f n ++ nmAt l n := by
  unfold rawL
  rw [show n + 1 - f = (n - f) + 1 by omega, List.range_succ, List.flatMap_append, List.flatMap_cons, List.flatMap_nil, List.append_nil, show f + (n - f) = n by omega]
theorem nmAt_len (l : List In) (i : Nat) : (nmAt l i).length ≤ 1 := by
  unfold nmAt
  split
  · split
    · split <;> simp
    · simp
  · simp
theorem rawL_nil (l : List In) (f : Nat) : rawL l f f = [] := by unfold rawL; simp
theorem rawL_len (l : List In) (f n : Nat) : (rawL l f n).length ≤ n - f := by
  unfold rawL
  induction n - f with
  | zero => simp
  | succ k ih =>
    rw [List.range_succ, List.flatMap_append, List.length_append, List.flatMap_cons, List.flatMap_nil, List.append_nil]
    have := nmAt_len l (f + k)
    omega
noncomputable def rowL (l : List In) (p : Pt2) : List Int := Lib.compact (sortL (rawL l p.1.toNat p.2.toNat))
noncomputable def callsL (l : List In) : List (List Int) := (partsL l).map (rowL l)
/-- rows of numbers -/
def cell1 (u : Value) : List Value := [u]
structure RowsI (w : World) (v : Value) (L : List (List Int)) : Prop where
  ex : ∃ vals : List Value, vals.length = L.length ∧ Sl w 28 1 v (vals.map cell1) ∧ ∀ (k : Nat) (u : Value) (R : List Int), vals[k]? = some u → L[k]? = some R → Ints w u R
theorem infoRI : (Tryz.prog.info? 28).map (fun i => (i.zero, i.size, i.bytes)) = some (some (.slice none 0 0), 1, 24) := by kernel_rfl

set_option maxHeartbeats 4000000 in
set_option maxRecDepth 100000 in
/-- Subs of a program without a fault -/
theorem isubs_any (l : List In) (a : Option Addr) (c : Nat) (w : World) (h : Ins w (.slice a l.length c) l) (hok : InsOk l) (hz : checkI l = 0) :
    Calls Tryz.prog 67 #[.slice a l.length c] w fun e w' => ∃ (pv : Value), e = .returned (.tuple #[pv, .int .i64 0, .int .i64 0]) ∧ Pts w' pv (partsL l) ∧ Kept (fun _ => False) w w' := by
  have hlen := hok.len
  have H1 := Lib.hid (fun W hI => second_any l a c W hI hok)
  have H2 := Lib.hid (fun sv W hI hS => slots_any l a c sv W hI hok hS)
  have H3 := Lib.hid (fun sv W hI hS => begins_any l a c sv W hI hok hS)
  have hbl := begins_len l
  have H4 := Lib.hid (fun bv W hB => split_any l.length a c (beginsL l) bv W hB (by omega))
  have HI := Lib.hid (fun (W : World) (hk : Kept (fun _ => False) w W) => h.kept hk)
  have hsz := (check_parts hz).1
  have hpo := parts_ok hsz
  have hpl := parts_len l
  have H5 := Lib.hid (fun pv sv W hI hP hS => ended_any l a c (partsL l) pv sv W hI hok hP hpo (by omega) hS)
  have hez : endedC l (partsL l) = 0 := by
    unfold checkI at hz
    rw [if_pos hsz] at hz
    by_cases he : endedC l (partsL l) = 0
    · exact he
    · rw [if_neg he] at hz; exact absurd hz he
  rw [hsz] at H2
  rw [hez] at H5
  have hPp : partsOf (beginsL l) l.length = partsL l := rfl
  rw [hPp] at H4
  clear hz hpo hpl hPp hbl hsz hez
  generalize partsL l = P at *
  generalize beginsL l = B at *
  go_enter Tryz.func67, Tryz.ntmps67
  go_wp2_with fail
  refine (H1.out _ (HI.out _ (Kept.refl _ w))).mono ?_
  rintro e w1 ⟨sv, rfl, hS, hk1, ho1⟩
  go_wp2_with fail
  refine (H2.out _ _ (HI.out _ hk1) hS).mono ?_
  rintro e w2 ⟨⟨p, rfl⟩, hk2⟩
  have hK2 := hk1.trans hk2 (fun _ _ h => h)
  have hS2 := Sl.kept hk2 hS (fun _ _ h => h)
  go_wp2_with fail
  refine (H3.out _ _ (HI.out _ hK2) hS2).mono ?_
  rintro e w3 ⟨bv, rfl, hB, hk3, ho3⟩
  have hK3 := hK2.trans hk3 (fun _ _ h => h)
  have hS3 := Sl.kept hk3 hS2 (fun _ _ h => h)
  go_wp2_with fail
  refine (H4.out _ _ hB).mono ?_
  rintro e w4 ⟨pv, rfl, hP, hk4, ho4⟩
  have hK4 := hK3.trans hk4 (fun _ _ h => h)
  have hS4 := Sl.kept hk4 hS3 (fun _ _ h => h)
  go_wp2_with fail
  refine (H5.out _ _ _ (HI.out _ hK4) hP hS4).mono ?_
  rintro e w5 ⟨⟨p5, rfl⟩, hk5⟩
  go_wp2_with fail
  refine bodyPost_ret (v := .tuple #[pv, .int .i64 0, .int .i64 0]) (by simp [results, Tryz.results67, go_sem]) rfl ?_
  exact ⟨pv, rfl, Sl.kept hk5 hP (fun _ _ h => h), hK4.trans hk5 (fun _ _ h => h)⟩
/-- the rows while they are being made -/
structure RowsG (w : World) (og n : Nat) (vals : List Value) (R : Nat → List Int) : Prop where
  len : vals.length = n
  sl : Sl w 28 1 (.slice (some ⟨og, 0, none⟩) n n) (vals.map cell1)
  row : ∀ (k : Nat) (u : Value), vals[k]? = some u → Ints w u (R k)
  own : ∀ (k : Nat) (u : Value) (g : Nat), vals[k]? = some u → u.ownBlock = some g → og < g
theorem RowsG.kept {w w' : World} {F : Nat → Prop} {og n : Nat} {vals : List Value} {R : Nat → List Int} (h : RowsG w og n vals R) (hk : Kept F w w') (hF : ∀ g, F g → g < w.heap.size → g ≠ og ∧ ∀ (k : Nat) (u : Value), vals[k]? = some u → u.ownBlock ≠ some g) : RowsG w' og n vals R :=
  ⟨h.len, Sl.kept hk h.sl (fun g hg hf => (hF g hf (Sl.lt h.sl g hg)).1 (Option.some.inj hg).symm), fun k u hu => Sl.kept hk (h.row k u hu) (fun g hg hf => (hF g hf (Sl.lt (h.row k u hu) g hg)).2 k u hu hg), h.own⟩
theorem RowsG.cell {w : World} {og n : Nat} {vals : List Value} {R : Nat → List Int} (h : RowsG w og n vals R) {k : Nat} {u : Value} (hu : vals[k]? = some u) : w.cell? ⟨og, k, none⟩ = some u := by
  have := Sl.cell h.sl (i := k) (c := cell1 u) (by rw [List.getElem?_map, hu]; rfl) (k := 0) (by omega)
  simpa [cell1] using this
/-- a row is put in its place -/
theorem RowsG.put {w : World} {og n : Nat} {vals : List Value} {R : Nat → List Int} (h : RowsG w og n vals R) {k : Nat} (hk : k < n) (u : Value) (X : List Int) (hu : Ints w u X) (ho : ∀ g, u.ownBlock = some g → og < g) :
    RowsG (w.setCell ⟨og, k, none⟩ u) og n (vals.set k u) (fun j => if j = k then X else R j) := by
  have hkl : k < vals.length := by rw [h.len]; exact hk
  have hset := Kept.setCell (F := fun g => g = og) (Kept.refl _ w) (p := ⟨og, k, none⟩) (fun _ => rfl) u
  refine ⟨by rw [List.length_set]; exact h.len, ?_, fun j v hv => ?_, fun j v g hv hg => ?_⟩
  · have := Sl.setCell h.sl (i := k) (c := cell1 vals[k]) (by rw [List.getElem?_map, List.getElem?_eq_getElem hkl]; rfl) (k := 0) (by omega) u
    rw [List.map_set]
    simpa [cell1] using this
  · by_cases e : j = k
    · subst e
      rw [List.getElem?_set_self hkl] at hv
      cases hv
      show Ints _ _ (if j = j then X else R j)
      rw [if_pos rfl]
      exact Sl.kept hset hu (fun g hg e => by have := ho g hg; have : g = og := e; omega)
    · rw [List.getElem?_set_ne (fun h => e h.symm)] at hv
      show Ints _ _ (if j = k then X else R j)
      rw [if_neg e]
      exact Sl.kept hset (h.row j v hv) (fun g hg e => by have := h.own j v g hv hg; have : g = og := e; omega)
  · by_cases e : j = k
    · subst e
      rw [List.getElem?_set_self hkl] at hv
      cases hv
      exact ho g hg
    · rw [List.getElem?_set_ne (fun h => e h.symm)] at hv
      exact h.own j v g hv hg
/-- a row has changed and is put in its place -/
theorem RowsG.swap {w w' : World} {og n : Nat} {vals : List Value} {R : Nat → List Int} (h : RowsG w og n vals R) {k : Nat} {u0 : Value} (hu0 : vals[k]? = some u0) (hk : Kept (fun g => u0.ownBlock = some g) w w')
    (hd : ∀ (j : Nat) (v : Value) (g : Nat), j ≠ k → vals[j]? = some v → v.ownBlock = some g → u0.ownBlock ≠ some g) (u : Value) (X : List Int) (hu : Ints w' u X) (ho : ∀ g, u.ownBlock = some g → og < g) :
    RowsG (w'.setCell ⟨og, k, none⟩ u) og n (vals.set k u) (fun j => if j = k then X else R j) := by
  have hkl : k < vals.length := (List.getElem?_eq_some_iff.1 hu0).1
  have hset := Kept.setCell (F := fun g => g = og) (Kept.refl _ w') (p := ⟨og, k, none⟩) (fun _ => rfl) u
  refine ⟨by rw [List.length_set]; exact h.len, ?_, fun j v hv => ?_, fun j v g hv hg => ?_⟩
  · have := Sl.setCell (Sl.kept hk h.sl (fun g hg hf => by have := h.own k u0 g hu0 hf; have : og = g := Option.some.inj hg; omega)) (i := k) (c := cell1 vals[k]) (by rw [List.getElem?_map, List.getElem?_eq_getElem hkl]; rfl) (k := 0) (by omega) u
    rw [List.map_set]
    simpa [cell1] using this
  · by_cases e : j = k
    · subst e
      rw [List.getElem?_set_self hkl] at hv
      cases hv
      show Ints _ _ (if j = j then X else R j)
      rw [if_pos rfl]
      exact Sl.kept hset hu (fun g hg e => by have := ho g hg; have : g = og := e; omega)
    · rw [List.getElem?_set_ne (fun h => e h.symm)] at hv
      show Ints _ _ (if j = k then X else R j)
      rw [if_neg e]
      exact Sl.kept hset (Sl.kept hk (h.row j v hv) (fun g hg hf => hd j v g e hv hg hf)) (fun g hg e => by have := h.own j v g hv hg; have : g = og := e; omega)
  · by_cases e : j = k
    · subst e
      rw [List.getElem?_set_self hkl] at hv
      cases hv
      exact ho g hg
    · rw [List.getElem?_set_ne (fun h => e h.symm)] at hv
      exact h.own j v g hv hg
theorem RowsG.congr {w : World} {og n : Nat} {vals : List Value} {R R' : Nat → List Int} (h : RowsG w og n vals R) (e : ∀ k, k < n → R k = R' k) : RowsG w og n vals R' :=
  ⟨h.len, h.sl, fun k u hu => by rw [← e k (by rw [← h.len]; exact (List.getElem?_eq_some_iff.1 hu).1)]; exact h.row k u hu, h.own⟩
set_option maxHeartbeats 8000000 in
set_option maxRecDepth 100000 in
theorem fCalls_any (l : List In) (a : Option Addr) (c : Nat) (w : World) (h : Ins w (.slice a l.length c) l) (hok : InsOk l) :
    Calls Tryz.prog 41 #[.slice a l.length c] w fun e w' => (∃ va vn vc, e = .returned (.tuple #[.slice va vn vc, .int .i64 (checkI l)]) ∧ (checkI l = 0 → RowsI w' (.slice va vn vc) (callsL l))) ∧ Kept (fun _ => False) w w' := by
  have hlen := hok.len
  have HRE := Lib.hid (fun W hI => fReached_any l a c W hI hok)
  have HSU := Lib.hid (fun hz W hI => isubs_any l a c W hI hok hz)
  have HNA := Lib.hid (fun i x W hI hx hk hrg => fnames_any l a c i x W hI hok hx hk hrg)
  have HIN := Lib.hid (fun (W : World) (hk : Kept (fun _ => False) w W) => h.kept hk)
  have HH := Lib.hid h
  clear h hok
  by_cases hz : checkI l = 0
  case neg =>
    have hzd : (checkI l != 0) = true := by simpa using hz
    have hzd' : (checkI l == 0) = false := by simpa using hz
    have HZ := Lib.hid hz
    clear hz HNA HSU
    generalize checkI l = r at *
    go_enter Tryz.func41, Tryz.ntmps41
    go_wp2_with fail
    refine (HRE.out w HH.out).mono ?_
    rintro e w1 ⟨ov, rfl, _, hk1, _⟩
    go_wp2_with fail
    refine bodyPost_ret (v := .tuple #[.slice none 0 0, .int .i64 r]) (by simp [results, Tryz.results41, go_sem]) rfl ?_
    exact ⟨⟨_, _, _, rfl, fun h => absurd h HZ.out⟩, hk1⟩
  case pos =>
    have hzz := (check_parts hz).1
    have hpn : (partsL l).length ≤ 64 := (check_parts hz).2.1
    have HPO := Lib.hid (parts_ok hzz)
    have HSU := Lib.hid (HSU.out hz)
    have HNO := Lib.hid (fun (i : Nat) (x : In) hx hs hc => nam_ok hz (i := i) (x := x) hx hs hc)
    rw [hz] at HRE ⊢
    have HRO := Lib.hid (fun (i : Nat) (hr : Rch l i) => rch_ok hz hr)
    have HKN := Lib.hid (fun (i : Nat) (x : In) hx hs => known_of hzz (i := i) (x := x) hx hs)
    clear hz hzz
    have hcl : callsL l = (partsL l).map (rowL l) := rfl
    rw [hcl]
    obtain ⟨i0, hI0, hI1, hI2, hI3⟩ := info_parts infoRI
    go_enter Tryz.func41, Tryz.ntmps41
    go_wp2_with fail
    refine (HRE.out w HH.out).mono ?_
    rintro e w1 ⟨ov, rfl, hB, hk1, hbo⟩
    have hB := hB trivial
    clear HRE
    go_wp2_with fail
    refine (HSU.out w1 (HIN.out _ hk1)).mono ?_
    rintro e w2 ⟨pv, rfl, hP, hk2⟩
    have hB2 := Sl.kept hk2 hB (fun _ _ h => h)
    have hK2 := hk1.trans hk2 (fun _ _ h => h)
    obtain ⟨pa, pc, rfl⟩ := Sl.any hP
    rw [List.length_map] at hP ⊢
    have HPB := Lib.hid (And.intro hP hB2)
    have HIN2 := Lib.hid (fun (W : World) (hk : Kept (fun _ => False) w2 W) => HIN.out W (hK2.trans hk (fun _ _ h => h)))
    clear hB hB2 hP HIN hk1 hk2 hbo HSU
    generalize hn : (partsL l).length = n at *
    go_wp2_with (at_make; refine wpList_makeRow (w := w2) rfl (.tmp 30) (.tmp 30) 92 rfl (.slice none 0 0) 1 rfl (by omega) Tryz.underlying92 hI0 hI1 hI2 hI3 (by omega) n rfl rfl (by omega) ?_; intro w3 hR3 hk3)
    have hG0 : RowsG w3 w2.heap.size n (List.replicate n (.slice none 0 0)) (fun _ => []) := ⟨by simp, by rw [List.map_replicate]; exact hR3, fun k u hu => by
      have := List.eq_of_mem_replicate (List.mem_of_getElem? hu)
      subst this
      exact Sl.nil _ _ _, fun k u g hu hg => by
      have := List.eq_of_mem_replicate (List.mem_of_getElem? hu)
      subst this
      simp [Value.ownBlock] at hg⟩
    generalize hog : w2.heap.size = og at *
    have HG0 := Lib.hid (And.intro hG0 hk3)
    clear hR3 hk3 hG0
    go_loopw [34] (fun iv wr => ∃ (k : Nat) (vals : List Value), iv = .int .i64 k ∧ k ≤ n ∧ RowsG wr og n vals (fun j => if j < k then rowL l ((partsL l).getD j (0, 0)) else []) ∧ (∀ (j : Nat) (u : Value), k ≤ j → vals[j]? = some u → u = .slice none 0 0) ∧ Kept (fun _ => False) w2 wr) (fun iv _ => n - (intOf iv).toNat)
    case atStart => exact ⟨0, _, rfl, by omega, HG0.out.1.congr (fun k _ => by simp), fun j u _ hu => List.eq_of_mem_replicate (List.mem_of_getElem? hu), HG0.out.2⟩
    case round =>
      clear HG0
      obtain ⟨k, vals, rfl, hk, hG, hnil, hK⟩ := hrel
      have HG := Lib.hid hG
      have HK := Lib.hid hK
      clear hG hK
      by_cases hkn : k < n
      case neg =>
        obtain rfl : k = n := by omega
        have hdl : decide ((k : Int) < k) = false := decide_eq_false (by omega)
        go_wp2_with fail
        refine bodyPost_ret (v := .tuple #[.slice (some ⟨og, 0, none⟩) k k, .int .i64 0]) (by simp [results, Tryz.results41, go_sem]) rfl ?_
        refine ⟨⟨_, _, _, rfl, fun _ => ⟨vals, by rw [List.length_map, hn]; exact HG.out.len, HG.out.sl, fun j u R hu hR => ?_⟩⟩, hK2.trans HK.out (fun _ _ h => h)⟩
        rw [List.getElem?_map] at hR
        obtain ⟨p, hp, rfl⟩ := Option.map_eq_some_iff.1 hR
        have hj : j < k := by rw [← hn]; exact (List.getElem?_eq_some_iff.1 hp).1
        have := HG.out.row j u hu
        simp only [if_pos hj] at this
        rwa [List.getD_eq_getElem?_getD, hp] at this
      case pos =>
      have hdl : decide ((k : Int) < n) = true := decide_eq_true (by omega)
      obtain ⟨p, hp⟩ : ∃ p, (partsL l)[k]? = some p := ⟨_, List.getElem?_eq_getElem (by omega)⟩
      obtain ⟨f, t, rfl, hft, htl⟩ := HPO.out.nat hp
      have hP := Sl.kept HK.out HPB.out.1 (fun g hg h => h)
      obtain ⟨sg, scap, hsv, hgl, hc0, hc1⟩ := Pts.at_ hP hp
      rw [hn] at hsv
      cases hsv
      have HGD : Hid ((partsL l).getD k (0, 0) = ((f : Int), (t : Int))) := Lib.hid (by rw [List.getD_eq_getElem?_getD, hp]; rfl)
      have hogl := Sl.lt HG.out.sl og rfl
      have hbound : f ≤ 1000000 ∧ t ≤ 1000000 := by omega
      clear hP hp
      go_wp2_with fail
      have hbS := Blk.new wr 111 #[.int .i64 f, .int .i64 t]
      have hKa := (Kept.refl (fun _ => False) wr).alloc (.cells #[.int .i64 f, .int .i64 t] 111)
      have hsza : (wr.alloc (.cells #[.int .i64 f, .int .i64 t] 111)).heap.size = wr.heap.size + 1 := by simp
      have hGa := HG.out.kept hKa (fun g h => h.elim)
      have hK2a := HK.out.trans hKa (fun _ _ h => h)
      generalize wr.alloc (.cells #[.int .i64 f, .int .i64 t] 111) = wa at *
      generalize hsB : wr.heap.size = sB at *
      obtain ⟨u0, hu0⟩ : ∃ u, vals[k]? = some u := ⟨_, List.getElem?_eq_getElem (by rw [HG.out.len]; exact hkn)⟩
      obtain rfl := hnil k u0 (Nat.le_refl _) hu0
      have HA := Lib.hid (And.intro hbS (And.intro hGa (And.intro hK2a hu0)))
      have HNL := Lib.hid hnil
      clear hbS hGa hK2a hKa HG HK hnil hu0 hc0 hc1 hgl
      go_loopw [12] (fun iv wr => ∃ (i : Nat) (vals' : List Value) (u : Value), iv = .int .i64 i ∧ f ≤ i ∧ i ≤ t ∧ vals'[k]? = some u ∧ RowsG wr og n vals' (fun j => if j < k then rowL l ((partsL l).getD j (0, 0)) else if j = k then rawL l f i else []) ∧ (∀ g, u.ownBlock = some g → sB < g) ∧ (∀ j, j ≠ k → vals'[j]? = vals[j]?) ∧ Kept (fun g => g = og) wa wr) (fun iv _ => t - (intOf iv).toNat)
      case atStart => exact ⟨f, vals, _, rfl, by omega, by omega, HA.out.2.2.2, HA.out.2.1.congr (fun j _ => by
        by_cases e : j < k
        · simp only [if_pos e]
        · by_cases e2 : j = k
          · subst e2; simp [rawL_nil]
          · simp [e, e2]), fun g hg => by simp [Value.ownBlock] at hg, fun _ _ => rfl, Kept.refl _ _⟩
      case round =>
        obtain ⟨i, vals', u, rfl, hfi, hit, hu, hG, hown, hoth, hK⟩ := hrel
        have hcu := hG.cell hu
        have hfz := Sl.frozen hG.sl k
        have hogr := Sl.lt hG.sl og rfl
        have hbr := hK.blk (fun e => by have e : sB = og := e; omega) HA.out.1
        have hsc1 := hbr.cell 1
        have hsbl := hbr.lt
        have HG := Lib.hid hG
        have HOW := Lib.hid (And.intro hown hoth)
        have HK := Lib.hid hK
        have HU := Lib.hid hu
        have HBR := Lib.hid hbr
        clear hG hown hoth hK hu hbr
        by_cases hilt : i < t
        case neg =>
          obtain rfl : i = t := by omega
          have hdi : decide ((i : Int) < i) = false := decide_eq_false (by omega)
          have hraw := rawL_len l f i
          have hrow := HG.out.row k u HU.out
          simp only [if_neg (Nat.lt_irrefl k), if_true] at hrow
          have HSO := Lib.hid (sortA_any u (rawL l f i) wr hrow (by omega))
          have hsl : Hid ((sortL (rawL l f i)).length ≤ 1000000) := Lib.hid (by rw [sortL_len]; omega)
          clear hrow
          go_wp2_with fail
          refine HSO.out.mono ?_
          rintro e w6 ⟨rfl, hS, hk6⟩
          have hog6 := hk6.cell (p := ⟨og, k, none⟩) hogr (fun e => by have := HG.out.own k u og HU.out e; omega)
          have hcu6 := hog6.trans hcu
          have hfz6 := (hk6.frozen (p := ⟨og, k, none⟩) hogr (fun e => by have := HG.out.own k u og HU.out e; omega)).trans hfz
          have hogr6 := Nat.lt_of_lt_of_le hogr hk6.size
          have HCO := Lib.hid (compactA_any u _ w6 hS (by have := hsl.out; omega))
          have HK6 := Lib.hid hk6
          have HS6 := Lib.hid hS
          clear hS hk6 HSO hog6 hcu hfz
          go_wp2_with fail
          refine HCO.out.mono ?_
          rintro e w7 ⟨u', rfl, hC, hk7, hou⟩
          have hcu7 := (hk7.cell (p := ⟨og, k, none⟩) hogr6 (fun e => by have := HG.out.own k u og HU.out e; omega)).trans hcu6
          have hfz7 := (hk7.frozen (p := ⟨og, k, none⟩) hogr6 (fun e => by have := HG.out.own k u og HU.out e; omega)).trans hfz6
          have hogr7 := Nat.lt_of_lt_of_le hogr6 hk7.size
          have HK7 := Lib.hid (HK6.out.trans hk7 (fun _ _ h => h))
          obtain ⟨ua, uc, rfl⟩ := Sl.any hC
          rw [List.length_map] at hC hou ⊢
          have HC7 := Lib.hid (And.intro hC hou)
          clear hC hk7 hou hcu6 hfz6
          go_wp2_with fail
          have hds : ∀ (j : Nat) (v : Value) (g : Nat), j ≠ k → vals'[j]? = some v → v.ownBlock = some g → u.ownBlock ≠ some g := fun j v g hj hv hg e => by
            rw [HOW.out.2 j hj] at hv
            have h1 := Sl.lt (HA.out.2.1.row j v hv) g hg
            have h2 := HOW.out.1 g e
            omega
          have hGN := HG.out.swap HU.out HK7.out hds _ _ HC7.out.1 (fun g hg => by rw [HC7.out.2] at hg; exact HG.out.own k u g HU.out hg)
          go_roundw
          case rel => exact ⟨k + 1, _, by simp, by omega, hGN.congr (fun j hj => by
            by_cases e : j = k
            · subst e
              rw [if_pos rfl, if_pos (by omega), HGD.out]
              rfl
            · rw [if_neg e]
              by_cases e2 : j < k
              · rw [if_pos e2, if_pos (by omega)]
              · rw [if_neg e2, if_neg e, if_neg (by omega)]), fun j u hj hu => by
            rw [List.getElem?_set_ne (by omega), HOW.out.2 j (by omega)] at hu
            exact HNL.out j u (by omega) hu, ((HA.out.2.2.1.trans HK.out (fun g hg e => by have e : g = og := e; omega)).trans HK7.out (fun g hg e => by have := HG.out.own k u g HU.out e; omega)).setCell (fun hlt => by have hlt : og < w2.heap.size := hlt; omega) _⟩
          case measure => (simp [intOf]; omega)
        case pos =>
        have hdi : decide ((i : Int) < t) = true := decide_eq_true (by omega)
        have hil : i < l.length := by omega
        have hB3 := Sl.kept ((HA.out.2.2.1.trans HK.out (fun g hg e => by have e : g = og := e; omega))) HPB.out.2 (fun g hg h => h)
        obtain ⟨b, hb⟩ : ∃ b, (rchL l)[i]? = some b := ⟨_, List.getElem?_eq_getElem (by rw [rchL_len]; exact hil)⟩
        have hbr : b = true ↔ Rch l i := by
          have := rchL_get (l := l) hil
          rw [hb] at this
          rw [Option.some.inj this]
          exact @decide_eq_true_iff _ (Classical.propDecidable _)
        obtain ⟨bg, bcap, hbv, hbcap, hbl⟩ := Sl.some_ hB3 (by rw [List.length_map, rchL_len]; omega)
        rw [List.length_map, rchL_len] at hbv
        subst hbv
        have hbc := Bls.cell hB3 hb
        have hrs := rawL_succ l (n := i) hfi
        obtain ⟨x, hx⟩ : ∃ x, l[i]? = some x := ⟨_, List.getElem?_eq_getElem hil⟩
        have HRS := Lib.hid hrs
        have HX := Lib.hid hx
        have HBR2 := Lib.hid hbr
        clear hB3 hb hrs hx hbr
        cases b
        case false =>
          have hnm : nmAt l i = [] := nmAt_not HX.out (fun h => by have := HBR2.out.2 h; cases this)
          have HN : Hid (rawL l f (i + 1) = rawL l f i) := Lib.hid (by rw [HRS.out, hnm, List.append_nil])
          clear hnm
          go_wp2_with fail
          go_roundw
          case rel => exact ⟨i + 1, vals', u, by simp, by omega, by omega, HU.out, by rw [HN.out]; exact HG.out, HOW.out.1, HOW.out.2, HK.out⟩
          case measure => (simp [intOf]; omega)
        case true =>
        have hr := HBR2.out.1 rfl
        have hs := (HRO.out i hr).2
        have hkn := HKN.out i x HX.out hs
        have hrg : isCallB x = true → 0 ≤ (i : Int) + 1 + x.imm ∧ (i : Int) + 1 + x.imm < l.length := fun e => by
          obtain ⟨n, e1, e2, e3, _⟩ := HNO.out i x HX.out hs e
          omega
        have HNM := Lib.hid (HNA.out i x wr (HIN2.out _ (HA.out.2.2.1.trans HK.out (fun g hg e => by have e : g = og := e; omega))) HX.out hkn hrg)
        have HRR := Lib.hid hr
        have hnam : namC i x = if isCallB x = true then some ((i : Int) + 1 + x.imm) else none := rfl
        have HRG := Lib.hid hrg
        have HNAM := Lib.hid hnam
        clear hr hs hkn hrg hnam
        generalize isCallB x = cb at *
        cases cb
        case false =>
          have hnm : nmAt l i = [] := by
            unfold nmAt
            rw [HX.out]
            show (match namC i x with
              | some t => @ite _ (Rch l i) (Classical.propDecidable _) [idxG t (partsL l) 0] []
              | none => []) = []
            rw [HNAM.out]
            rfl
          have HN : Hid (rawL l f (i + 1) = rawL l f i) := Lib.hid (by rw [HRS.out, hnm, List.append_nil])
          clear hnm
          go_wp2_with fail
          refine HNM.out.mono ?_
          rintro e w6 ⟨rfl, hk6⟩
          have HG6 := Lib.hid (HG.out.kept hk6 (fun g h => h.elim))
          have HK6 := Lib.hid (HK.out.trans hk6 (fun _ _ h => h.elim))
          clear hk6
          go_wp2_with fail
          go_roundw
          case rel => exact ⟨i + 1, vals', u, by simp, by omega, by omega, HU.out, by rw [HN.out]; exact HG6.out.kept ((Kept.refl (fun _ => False) _).alloc _) (fun g h => h.elim), HOW.out.1, HOW.out.2, HK6.out.alloc _⟩
          case measure => (simp [intOf]; omega)
        case true =>
        have hT : (if true = true then (i : Int) + 1 + x.imm else 0) = (i : Int) + 1 + x.imm := rfl
        rw [hT] at HNM
        have hrg := HRG.out rfl
        have HNA2 : Hid (namC i x = some ((i : Int) + 1 + x.imm)) := Lib.hid HNAM.out
        generalize (i : Int) + 1 + x.imm = tg at *
        have hnm : nmAt l i = [idxG tg (partsL l) 0] := by
          unfold nmAt
          rw [HX.out]
          show (match namC i x with
            | some t => @ite _ (Rch l i) (Classical.propDecidable _) [idxG t (partsL l) 0] []
            | none => []) = _
          rw [HNA2.out]
          exact @if_pos _ (Classical.propDecidable _) HRR.out _ _ _
        have HN : Hid (rawL l f (i + 1) = rawL l f i ++ [idxG tg (partsL l) 0]) := Lib.hid (by rw [HRS.out, hnm])
        clear hnm hT
        go_wp2_with fail
        refine HNM.out.mono ?_
        rintro e w6 ⟨rfl, hk6⟩
        go_wp2_with fail
        have hK6 := HK.out.trans hk6 (fun _ _ h => h.elim)
        have hkT := hk6.trans ((Kept.refl (fun _ => False) w6).alloc (.cells #[.int .i64 tg] 3)) (fun _ _ h => h)
        have hKT := HK.out.trans hkT (fun _ _ h => h.elim)
        have hG6 := HG.out.kept hkT (fun g h => h.elim)
        have htc : (w6.alloc (.cells #[.int .i64 tg] 3)).cell? ⟨w6.heap.size, 0, none⟩ = some (.int .i64 tg) := (Blk.new w6 3 #[.int .i64 tg]).cell 0
        have htl6 : w6.heap.size < (w6.alloc (.cells #[.int .i64 tg] 3)).heap.size := by simp
        have hfzT : (w6.alloc (.cells #[.int .i64 tg] 3)).frozen? ⟨og, k, none⟩ = false := (hkT.frozen (p := ⟨og, k, none⟩) hogr id).trans hfz
        have hsz6 := hkT.size
        generalize w6.heap.size = pT at *
        generalize w6.alloc (.cells #[.int .i64 tg] 3) = wT at *
        have hcT := hG6.cell HU.out
        have HGT := Lib.hid hG6
        have HPT := Lib.hid (Sl.kept ((HA.out.2.2.1.trans hKT (fun g hg e => by have e : g = og := e; omega))) HPB.out.1 (fun g hg h => h))
        have HIX : Hid (∀ W, Kept (fun _ => False) wT W → Calls Tryz.prog 69 #[.slice (some ⟨sg, 0, none⟩) n pc, .func (.func 70) #[] #[.pointer (some ⟨pT, 0, none⟩)]] W fun e w' => e = .returned (.int .i64 (idxG tg (partsL l) 0)) ∧ Kept (fun _ => False) W w') := Lib.hid (fun W hk => indexFunc_any (partsL l) _ tg pT W (Sl.kept hk HPT.out (fun g hg h => h)) (by omega) ((hk.cell (p := ⟨pT, 0, none⟩) htl6 id).trans htc) (Nat.lt_of_lt_of_le htl6 hk.size))
        have HKT := Lib.hid (And.intro hKT hsz6)
        have HCT := Lib.hid hcT
        have HFT := Lib.hid hfzT
        have hogT : og < wT.heap.size := by omega
        clear hK6 hkT hKT hG6 htc hsz6 hcT hfzT hcu hfz hk6 HNM
        refine wp_region_mix [.w, .w, .w, .w, .w, .l, .w, .w, .k, .k, .t, .w, .t] (by kernel_rfl) (by kernel_rfl) (fun W => Kept (fun _ => False) wT W) ?_
        have hcd : Kept (fun _ => False) wT wT.drew := (Kept.refl _ wT).drew
        repeat (refine mix_w1 ?_; go_big_quiet_step (fail); refine wpQuiet_nil ?_)
        refine mix_load1 hcd rfl 28 (.tmp 63) rfl (fun w => by kernel_rfl) ⟨og, k, none⟩ u rfl (fun w' hw' => (hw'.cell (p := ⟨og, k, none⟩) hogT id).trans HCT.out) ?_
        simp only [Act.put, List.setIfInBounds_toArray, List.set_cons_succ, List.set_cons_zero]
        repeat (refine mix_w1 ?_; go_big_quiet_step (fail); refine wpQuiet_nil ?_)
        refine mix_k hcd fun Q' hQ' => ?_
        go_wp2_with fail
        refine (HIX.out _ hcd).mono ?_
        rintro e w8 ⟨rfl, hk8⟩
        have hc8 := hcd.trans hk8 (fun _ _ h => h)
        go_wp2_with fail
        refine hQ' _ _ hc8 ?_
        clear hQ' Q' hcd hk8 HIX
        have hG8 := HGT.out.kept hc8 (fun g h => h.elim)
        have hrow := hG8.row k u HU.out
        simp only [if_neg (Nat.lt_irrefl k), if_true] at hrow
        have hrl := rawL_len l f i
        have HRW := Lib.hid hrow
        have HG8 := Lib.hid hG8
        have HC8 := Lib.hid hc8
        have hog8 := Nat.lt_of_lt_of_le hogT hc8.size
        clear hG8 hrow
        refine mix_k hc8 fun Q' hQ' => ?_
        go_wp2_with fail
        refine hQ' _ _ (hc8.alloc _) ?_
        clear hQ' Q' hc8
        refine mix_t fun Q' hQ' => ?_
        go_wp2_with (at_builtin; refine wpList_pushI (w := w8) rfl (.tmp 64) (.tmp 68) rfl u (rawL l f i) (idxG tg (partsL l) 0) rfl rfl HRW.out (by omega) ?_; intro v9 w9 hI9 hk9 hv9)
        obtain ⟨va, vc, rfl⟩ := Sl.any hI9
        rw [List.length_map, List.length_append, List.length_singleton] at hI9 hv9 ⊢
        have hc9 : w9.cell? ⟨og, k, none⟩ = some u := (hk9.cell (p := ⟨og, k, none⟩) hog8 (fun e => by have := HG.out.own k u og HU.out e; omega)).trans (HG8.out.cell HU.out)
        have hf9 : w9.frozen? ⟨og, k, none⟩ = false := (hk9.frozen (p := ⟨og, k, none⟩) hog8 (fun e => by have := HG.out.own k u og HU.out e; omega)).trans (Sl.frozen HG8.out.sl k)
        have hog9 := Nat.lt_of_lt_of_le hog8 hk9.size
        have H9 := Lib.hid (And.intro hI9 (And.intro hk9 hv9))
        clear hI9 hk9 hv9
        repeat (refine mix_w1 ?_; go_big_quiet_step (fail); refine wpQuiet_nil ?_)
        refine mix_t fun Q' hQ' => ?_
        go_wp2_with fail
        refine mix_done ?_
        have hds : ∀ (j : Nat) (v : Value) (g : Nat), j ≠ k → vals'[j]? = some v → v.ownBlock = some g → u.ownBlock ≠ some g := fun j v g hj hv hg e => by
          rw [HOW.out.2 j hj] at hv
          have h1 := Sl.lt (HA.out.2.1.row j v hv) g hg
          have h2 := HOW.out.1 g e
          omega
        have hs8 := HC8.out.size
        have hTs := HKT.out.1.size
        have hown9 : ∀ g, (Value.slice va ((rawL l f i).length + 1) vc).ownBlock = some g → sB < g := fun g hg => by
          rcases H9.out.2.2 g hg with h | h
          · exact HOW.out.1 g h
          · omega
        have hGN := HG8.out.swap HU.out H9.out.2.1 hds _ _ H9.out.1 (fun g hg => by have := hown9 g hg; omega)
        have hKN := (((HKT.out.1.trans HC8.out (fun _ _ h => h.elim)).trans H9.out.2.1 (fun g hg e => by have := HOW.out.1 g e; omega)).setCell (p := ⟨og, k, none⟩) (fun _ => rfl) (.slice va ((rawL l f i).length + 1) vc))
        have hkl : k < vals'.length := (List.getElem?_eq_some_iff.1 HU.out).1
        go_wp2_with fail
        go_roundw
        case rel => exact ⟨i + 1, _, _, by simp, by omega, by omega, List.getElem?_set_self hkl, hGN.congr (fun j hj => by
          by_cases e : j = k
          · subst e
            rw [if_pos rfl, if_neg (Nat.lt_irrefl j), if_pos rfl, HN.out]
          · rw [if_neg e, if_neg e]
            by_cases e2 : j < k
            · rw [if_pos e2, if_pos e2]
            · rw [if_neg e2, if_neg e2, if_neg e]), hown9, fun j hj => by rw [List.getElem?_set_ne (fun h => hj h.symm)]; exact HOW.out.2 j hj, hKN⟩
        case measure => (simp [intOf]; omega)

end Go.Proofs.YtlkgmcacbfoijaaGreat

