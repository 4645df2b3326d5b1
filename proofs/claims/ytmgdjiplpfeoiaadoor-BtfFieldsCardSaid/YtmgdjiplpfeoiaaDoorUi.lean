import Derived.Test.YtmgdjiplpfeoiaaDoorUe
import Derived.Test.YtmgdjiplpfeoiaaDoorTq
import Derived.Test.YtmgdjiplpfeoiaaDoorBs
import Derived.Test.YtmgdjiplpfeoiaaDoorIa
import Derived.Test.YtmgdjiplpfeoiaaDoorTj
import Derived.Test.YtmgdjiplpfeoiaaDoorUc
import Derived.Outline
import Derived.Deep.DeepCutAuto
import Derived.Deep.CutBlock
set_option linter.unusedSimpArgs false
set_option linter.unusedVariables false
namespace Go.Proofs.YtmgdjiplpfeoiaaDoor
open Go.RowKit

theorem resolve_code (l : List Ty) (id : Int) : (resolveL l id).2 = if (checkL l).2 ≠ 0 then (checkL l).2 else if id < 1 ∨ (l.length : Int) < id then 41 else 0 := by
  unfold resolveL
  split
  · rfl
  · split <;> rfl

set_option maxHeartbeats 2000000 in
set_option maxRecDepth 100000 in
theorem there_any (l : List Ty) (a : Option Addr) (c : Nat) (id : Int) (w : World) (h : Tys w (.slice a l.length c) l) (hr : Raw l) :
    Calls Tryd.prog 50 #[.slice a l.length c, .int .i64 id] w fun e w' => e = .returned (.int .i64 (resolveL l id).2) ∧ Kept (fun _ => False) w w' := by
  have hmx := hr.len
  unfold maxLen at hmx
  rw [resolve_code]
  by_cases h0 : (checkL l).2 = 0
  · rw [if_neg (by simpa using h0)]
    by_cases h1 : id < 1
    · rw [if_pos (.inl h1)]
      go_enter Tryd.func50, Tryd.ntmps50
      go_wp2_with fail
      refine (refcheck_any l a c w h hr).mono ?_
      rintro e w1 ⟨rfl, hk1⟩
      rw [h0]
      go_wp2_with fail
      go_ret
      exact ⟨rfl, hk1⟩
    by_cases h2 : (l.length : Int) < id
    · rw [if_pos (.inr h2)]
      go_enter Tryd.func50, Tryd.ntmps50
      go_wp2_with fail
      refine (refcheck_any l a c w h hr).mono ?_
      rintro e w1 ⟨rfl, hk1⟩
      rw [h0]
      go_wp2_with fail
      go_ret
      exact ⟨rfl, hk1⟩
    rw [if_neg (by omega)]
    go_enter Tryd.func50, Tryd.ntmps50
    go_wp2_with fail
    refine (refcheck_any l a c w h hr).mono ?_
    rintro e w1 ⟨rfl, hk1⟩
    rw [h0]
    go_wp2_with fail
    go_ret
    exact ⟨rfl, hk1⟩
  · rw [if_pos (by simpa using h0)]
    have e0 : ((checkL l).2 == 0) = false := by simpa using h0
    clear h0
    go_enter Tryd.func50, Tryd.ntmps50
    go_wp2_with fail
    refine (refcheck_any l a c w h hr).mono ?_
    rintro e w1 ⟨rfl, hk1⟩
    go_wp2_with fail
    go_ret
    exact ⟨rfl, hk1⟩

theorem sizeL_idem {l : List Ty} {i k : Nat} {t : Ty} (h : throughL l ((i : Int) + 1) = (k : Int) + 1) (ht : tyAt l (throughL l ((i : Int) + 1)) = some t) (hk : t.kind ≠ 5) : sizeL l ((k : Int) + 1) = sizeL l ((i : Int) + 1) := by
  have e : throughL l ((k : Int) + 1) = (k : Int) + 1 := by
    rw [h] at ht
    exact through_stop ht hk
  unfold sizeL
  simp only [sizeF]
  rw [e, h]

set_option maxHeartbeats 2000000 in
set_option maxRecDepth 100000 in
theorem refsize_any (l : List Ty) (a : Option Addr) (c : Nat) (id : Int) (w : World) (h : Tys w (.slice a l.length c) l) (hr : Raw l) :
    Calls Tryd.prog 27 #[.slice a l.length c, .int .i64 id] w fun e w' => e = .returned (.tuple #[.int .i64 (sizeR l id).1, .int .i64 (sizeR l id).2]) ∧ Kept (fun _ => False) w w' := by
  by_cases h0 : (resolveL l id).2 = 0
  · obtain ⟨hc, h1, h2, ht⟩ := resolve_ok h0
    obtain ⟨hg, _, _⟩ := good_of hr hc
    have h256 := hg.fit.len
    obtain ⟨i, hi⟩ : ∃ i : Nat, id = (i : Int) + 1 := ⟨(id - 1).toNat, by omega⟩
    subst hi
    obtain ⟨k, t, hk1, hk2, hta, hk5⟩ := through_ix hg (i := i) (by omega)
    have hkl := (List.getElem?_eq_some_iff.1 hk2).1
    have hka : kindAt l (resolveL l ((i : Int) + 1)).1 = t.kind := by rw [ht]; unfold kindAt; rw [hta]; rfl
    have hTH := fun W hW => refthrough_any l a c i W hW hg (by omega)
    rw [hk1] at hTH
    by_cases h6 : t.kind = 6
    · have hS : sizeR l ((i : Int) + 1) = (0, 41) := by unfold sizeR; rw [if_neg (by simpa using h0), if_pos (by rw [hka]; exact h6)]
      have e6 : (t.kind == 6) = true := by simpa using h6
      clear h6 hka
      go_enter Tryd.func27, Tryd.ntmps27
      go_wp2_with fail
      refine (there_any l a c _ w h hr).mono ?_
      rintro e w1 ⟨rfl, hk1'⟩
      rw [h0]
      obtain ⟨g, o, mv, rfl, hgl, hm, c0, c1, c2, c3, c4, c5, c6⟩ := (h.kept hk1').at_ hk2
      go_wp2_with fail
      refine (hTH _ (h.kept hk1')).mono ?_
      rintro e w2 ⟨rfl, rfl⟩
      go_wp2_with fail
      go_ret2
      exact ⟨by rw [hS]; rfl, hk1'⟩
    · have hS : sizeR l ((i : Int) + 1) = (sizeL l ((i : Int) + 1), 0) := by unfold sizeR; rw [if_neg (by simpa using h0), if_neg (by rw [hka]; exact h6), ht, hk1, sizeL_idem hk1 hta hk5]
      have e6 : (t.kind == 6) = false := by simpa using h6
      clear h6 hka
      go_enter Tryd.func27, Tryd.ntmps27
      go_wp2_with fail
      refine (there_any l a c _ w h hr).mono ?_
      rintro e w1 ⟨rfl, hk1'⟩
      rw [h0]
      have hT1 := h.kept hk1'
      obtain ⟨g, o, mv, rfl, hgl, hm, c0, c1, c2, c3, c4, c5, c6⟩ := hT1.at_ hk2
      go_wp2_with fail
      refine (hTH _ hT1).mono ?_
      rintro e w2 ⟨rfl, rfl⟩
      go_wp2_with fail
      refine (sizes_any l _ c w1 hT1 hg).mono ?_
      rintro e w3 ⟨mb, M, rfl, hI, hM, hmb, hk3⟩
      have hcx := Ints.cell hI (hM i (by omega))
      go_wp2_with fail
      go_ret2
      exact ⟨by rw [hS]; rfl, hk1'.trans hk3 (fun _ _ h => h)⟩
  · have hS : sizeR l id = (0, (resolveL l id).2) := by unfold sizeR; rw [if_pos h0]
    have e0 : ((resolveL l id).2 == 0) = false := by simpa using h0
    have e1 : ((resolveL l id).2 != 0) = true := by simpa using h0
    clear h0
    go_enter Tryd.func27, Tryd.ntmps27
    go_wp2_with fail
    refine (there_any l a c _ w h hr).mono ?_
    rintro e w1 ⟨rfl, hk1⟩
    go_wp2_with fail
    go_ret2
    exact ⟨by rw [hS]; rfl, hk1⟩

end Go.Proofs.YtmgdjiplpfeoiaaDoor
set_option linter.unusedSimpArgs false
set_option linter.unusedVariables false
namespace Go.Proofs.YtmgdjiplpfeoiaaDoor
open Go.RowKit

/-! ### the document's there, Size and plain -/
theorem dec_small {u : Nat} (h : u < 10) : Lib.decDigits u = [UInt8.ofNat (48 + u)] := by rw [Lib.decDigits, dif_pos h]
theorem dec_big {u : Nat} (h : ¬ u < 10) : Lib.decDigits u = Lib.decDigits (u / 10) ++ [UInt8.ofNat (48 + u % 10)] := by rw [Lib.decDigits, dif_neg h]

set_option maxHeartbeats 2000000 in
set_option maxRecDepth 100000 in
theorem plain_any (n : Nat) (w : World) (hn : n ≤ 1000000) :
    Calls Tryd.prog 30 #[.int .i64 n] w fun e w' => e = .returned (nV (Lib.itoa n)) ∧ Kept (fun _ => False) w w' := by
  go_enter Tryd.func30, Tryd.ntmps30
  go_wp2
  go_loopw [0, 3] (fun iv sv wr => ∃ (k : Nat) (s : List UInt8), iv = .int .i64 k ∧ sv = nV s ∧ k ≤ 1000000 ∧ s.length + k ≤ 2000000 ∧ Lib.decDigits n = Lib.decDigits k ++ s ∧ Kept (fun _ => False) w wr) (fun iv _ _ => (intOf iv).toNat)
  case atStart => exact ⟨n, [], rfl, rfl, hn, by simp; omega, by simp, Kept.refl _ w⟩
  case round =>
    obtain ⟨k, s, rfl, rfl, hk, hs, hd, hK⟩ := hrel
    have hcv : (convert 35 9 (.slice (some ⟨wr.heap.size, 0, none⟩) 1 1)).run Tryd.prog (wr.alloc (.cells #[.int .u8 (48 + (k : Int) % 10)] 5)) = .ok (nV [UInt8.ofNat (48 + k % 10)]) (wr.alloc (.cells #[.int .u8 (48 + (k : Int) % 10)] 5)) := by
      have := (By.ofNew wr [UInt8.ofNat (48 + k % 10)] 1 (by simp)).conv (src := 35) (dst := 9) Tryd.underlying35 Tryd.underlying5 Tryd.underlying9
      have e : (bcells [UInt8.ofNat (48 + k % 10)]).toArray = #[Value.int .u8 (48 + (k : Int) % 10)] := by
        simp [bcells]
        omega
      rw [e] at this
      exact this
    have hkA := hK.alloc (.cells #[.int .u8 (48 + (k : Int) % 10)] 5)
    have hb : (48 + UInt8.ofNat (k % 10)) = UInt8.ofNat (48 + k % 10) := by rw [UInt8.ofNat_add]; rfl
    have hcat : Value.string ({ data := #[48 + UInt8.ofNat (k % 10)] } ++ { data := s.toArray }) = nV (UInt8.ofNat (48 + k % 10) :: s) := by
      rw [hb]
      refine congrArg Value.string ?_
      apply ByteArray.ext
      simp [ByteArray.data_append]
    have HCAT := Lib.hid hcat
    clear hb hcat
    by_cases h0 : k < 10
    · go_wp2_with fail
      go_ret
      refine ⟨?_, hkA⟩
      rw [HCAT.out, Lib.itoa_nonneg, hd, dec_small h0, Nat.mod_eq_of_lt h0]
      rfl
    · go_wp2_with fail
      exact ⟨⟨k / 10, UInt8.ofNat (48 + k % 10) :: s, by simp, HCAT.out, by omega, by simp; omega, by rw [hd, dec_big h0]; simp, hkA⟩, by simp [intOf]; omega⟩

end Go.Proofs.YtmgdjiplpfeoiaaDoor
set_option linter.unusedSimpArgs false
set_option linter.unusedVariables false
namespace Go.Proofs.YtmgdjiplpfeoiaaDoor
open Go.RowKit

/-! ### members that lie apart: the one that holds a place -/
def covB (l : List Ty) (off : Int) (m : Mb) : Bool := decide (m.bits.tdiv 8 ≤ off) && decide (off < m.bits.tdiv 8 + sizeL l m.type)
theorem laidM_from {l : List Ty} {size : Int} : ∀ {ms : List Mb} {e : Int}, laidM l size ms e = true → (∀ m ∈ ms, 0 ≤ sizeL l m.type) → ∀ m ∈ ms, e ≤ m.bits / 8
  | [], _, _, _, m, hm => by cases hm
  | x :: r, e, h, hs, m, hm => by
    simp only [laidM, Bool.and_eq_true, Bool.not_eq_true', Bool.or_eq_false_iff, decide_eq_false_iff_not] at h
    have := hs x (List.mem_cons_self ..)
    rcases List.mem_cons.1 hm with rfl | hm
    · omega
    · have := laidM_from h.2 (fun m hm => hs m (List.mem_cons_of_mem _ hm)) m hm
      omega
theorem laidM_apart {l : List Ty} {size : Int} : ∀ {ms : List Mb} {e : Int}, laidM l size ms e = true → (∀ m ∈ ms, 0 ≤ sizeL l m.type) → ∀ {i j : Nat} {x y : Mb}, i < j → ms[i]? = some x → ms[j]? = some y → x.bits / 8 + sizeL l x.type ≤ y.bits / 8
  | [], _, _, _, i, j, x, y, _, hx, _ => by simp at hx
  | z :: r, e, h, hs, i, j, x, y, hij, hx, hy => by
    simp only [laidM, Bool.and_eq_true, Bool.not_eq_true', Bool.or_eq_false_iff, decide_eq_false_iff_not] at h
    obtain ⟨j, rfl⟩ : ∃ j', j = j' + 1 := ⟨j - 1, by omega⟩
    rw [List.getElem?_cons_succ] at hy
    cases i with
    | zero =>
      simp only [List.getElem?_cons_zero, Option.some.injEq] at hx
      subst hx
      exact laidM_from h.2 (fun m hm => hs m (List.mem_cons_of_mem _ hm)) y (List.mem_of_getElem? hy)
    | succ i =>
      rw [List.getElem?_cons_succ] at hx
      exact laidM_apart h.2 (fun m hm => hs m (List.mem_cons_of_mem _ hm)) (by omega) hx hy
theorem cov_one {l : List Ty} {size off : Int} {ms : List Mb} (h : laidM l size ms 0 = true) (hs : ∀ m ∈ ms, 0 ≤ sizeL l m.type) {i j : Nat} {x y : Mb} (hx : ms[i]? = some x) (hy : ms[j]? = some y) (cx : covB l off x = true) (cy : covB l off y = true) : i = j := by
  have bx := laidM_bits h x (List.mem_of_getElem? hx)
  have by_ := laidM_bits h y (List.mem_of_getElem? hy)
  unfold covB at cx cy
  simp only [Bool.and_eq_true, decide_eq_true_eq] at cx cy
  rw [Int.tdiv_eq_ediv_of_nonneg bx] at cx
  rw [Int.tdiv_eq_ediv_of_nonneg by_] at cy
  rcases Nat.lt_trichotomy i j with e | e | e
  · have := laidM_apart h hs e hx hy
    omega
  · exact e
  · have := laidM_apart h hs e hy hx
    omega
theorem cov_of_member {l : List Ty} {off n : Int} {m : Mb} (hn : 1 ≤ n) (h : memberB l off n m = true) : covB l off m = true := by
  unfold memberB at h
  unfold covB
  simp only [Bool.and_eq_true, decide_eq_true_eq] at *
  omega
theorem memberR_cov {l : List Ty} {size off n : Int} {ms : List Mb} (h : laidM l size ms 0 = true) (hs : ∀ m ∈ ms, 0 ≤ sizeL l m.type) (hn : 1 ≤ n) {i : Nat} {m : Mb} (hm : ms[i]? = some m) (hc : covB l off m = true) : memberR l off n ms = if off + n ≤ m.bits.tdiv 8 + sizeL l m.type then (m, true) else (mb0, false) := by
  unfold memberR
  cases hf : ms.find? (memberB l off n) with
  | none =>
    rw [if_neg]
    intro hle
    have := List.find?_eq_none.1 hf m (List.mem_of_getElem? hm)
    unfold covB at hc
    simp only [Bool.and_eq_true, decide_eq_true_eq] at hc
    unfold memberB at this
    simp only [Bool.and_eq_true, decide_eq_true_eq] at this
    exact this ⟨hc.1, hle⟩
  | some y =>
    have hyB := List.find?_some hf
    obtain ⟨j, hj, e⟩ := List.mem_iff_getElem.1 (List.mem_of_find?_eq_some hf)
    have hy : ms[j]? = some y := by rw [List.getElem?_eq_getElem hj, e]
    have := cov_one h hs hm hy hc (cov_of_member hn hyB)
    subst this
    rw [hm] at hy
    cases hy
    unfold memberB at hyB
    simp only [Bool.and_eq_true, decide_eq_true_eq] at hyB
    rw [if_pos hyB.2]
theorem memberR_nil {l : List Ty} {off n : Int} {ms : List Mb} (hn : 1 ≤ n) (h : ∀ m ∈ ms, covB l off m = false) : (memberR l off n ms).2 = false := by
  unfold memberR
  cases hf : ms.find? (memberB l off n) with
  | none => rfl
  | some y =>
    have := cov_of_member hn (List.find?_some hf)
    rw [h y (List.mem_of_find?_eq_some hf)] at this
    cases this
theorem size_through {l : List Ty} {id : Int} {k : Nat} {t : Ty} (h : throughL l id = (k : Int) + 1) (ht : tyAt l (throughL l id) = some t) (hk : t.kind ≠ 5) : sizeL l ((k : Int) + 1) = sizeL l id := by
  have e : throughL l ((k : Int) + 1) = (k : Int) + 1 := by
    rw [h] at ht
    exact through_stop ht hk
  unfold sizeL
  simp only [sizeF]
  rw [e, h]

end Go.Proofs.YtmgdjiplpfeoiaaDoor
set_option linter.unusedSimpArgs false
set_option linter.unusedVariables false
namespace Go.Proofs.YtmgdjiplpfeoiaaDoor
open Go.RowKit

set_option maxHeartbeats 16000000 in
set_option maxRecDepth 100000 in
theorem reffield_in (l : List Ty) (a : Option Addr) (c : Nat) (id off n : Int) (w : World) (h : Tys w (.slice a l.length c) l) (hr : Raw l) (ho : -9223372036854775808 ≤ off ∧ off ≤ 9223372036854775807) (hnn : -9223372036854775808 ≤ n ∧ n ≤ 9223372036854775807) (h0 : (sizeR l id).2 = 0) :
    Calls Tryd.prog 13 #[.slice a l.length c, .int .i64 id, .int .i64 off, .int .i64 n] w fun e w' => e = .returned (.tuple #[nV (fieldA l id off n).1, .int .i64 (fieldA l id off n).2]) ∧ Kept (fun _ => False) w w' := by
  obtain ⟨hg, ⟨hF, hLL⟩, i1, i2, h6, hs1, hs2⟩ := sizeR_ok hr h0
  have h256 := hg.fit.len
  have hcl := hg.closed
  have hac := hg.acyc
  obtain ⟨wh, hwh⟩ : ∃ wh, (sizeR l id).1 = wh := ⟨_, rfl⟩
  obtain ⟨bad, hbad⟩ : ∃ bad : Bool, decide (off < 0 ∨ ¬ (n = 1 ∨ n = 2 ∨ n = 4 ∨ n = 8) ∨ wh < off ∨ wh - off < n) = bad := ⟨_, rfl⟩
  have hR : fieldA l id off n = if bad = true then ([], 43) else fieldF l n (l.length + 1) id off [] := by
    unfold fieldA
    rw [if_neg (by simpa using h0), hwh]
    cases bad with
    | true => rw [if_pos (by simpa using hbad)]; rfl
    | false => rw [if_neg (by simpa using hbad)]; rfl
  rw [hwh] at hs1 hs2
  have hSZ := Lib.hid (refsize_any l a c id w h hr)
  rw [h0, hwh] at hSZ
  clear hwh
  obtain ⟨i, rfl⟩ : ∃ i : Nat, id = (i : Int) + 1 := ⟨(id - 1).toNat, by omega⟩
  obtain ⟨RR, hRR⟩ : ∃ R, R = fieldA l ((i : Int) + 1) off n := ⟨_, rfl⟩
  rw [← hRR] at hR
  have HR := Lib.hid hRR
  clear hRR h0
  go_enter Tryd.func13, Tryd.ntmps13
  go_wp2_with fail
  refine hSZ.out.mono ?_
  rintro e w1 ⟨rfl, hk1⟩
  go_upto_region 4 with fail
  go_cut [58] (fun s wx => s = .bool bad ∧ w1 = wx)
  case first =>
    as_aux_lemma =>
    clear hR h6 hF hLL hSZ hk1
    have HB := Lib.hid hbad
    clear hbad
    by_cases p1 : off < 0
    · go_wp2_with fail
      go_meet
      exact ⟨congrArg Value.bool (by rw [← HB.out]; simp [p1]), rfl⟩
    by_cases p2 : wh < off
    · go_wp2_with fail
      go_meet
      exact ⟨congrArg Value.bool (by rw [← HB.out]; simp [p2]), rfl⟩
    have hp : (n != 1) = false ∨ ((n != 1) = true ∧ ((n != 2) = false ∨ ((n != 2) = true ∧ ((n != 4) = false ∨ ((n != 4) = true ∧ ((n != 8) = false ∨ (n != 8) = true)))))) := by
      cases (n != 1) <;> cases (n != 2) <;> cases (n != 4) <;> cases (n != 8) <;> simp
    rcases hp with e1 | ⟨e1, e2 | ⟨e2, e4 | ⟨e4, e8 | e8⟩⟩⟩
    · by_cases p3 : wh - off < n
      all_goals
        go_wp2_with fail
        go_meet
        exact ⟨congrArg Value.bool (by rw [← HB.out]; simp at e1; first | (simp [p1, p2, p3]; done) | (simp [p1, p2, p3]; omega)), rfl⟩
    · by_cases p3 : wh - off < n
      all_goals
        go_wp2_with fail
        go_meet
        exact ⟨congrArg Value.bool (by rw [← HB.out]; simp at e1 e2; first | (simp [p1, p2, p3]; done) | (simp [p1, p2, p3]; omega)), rfl⟩
    · by_cases p3 : wh - off < n
      all_goals
        go_wp2_with fail
        go_meet
        exact ⟨congrArg Value.bool (by rw [← HB.out]; simp at e1 e2 e4; first | (simp [p1, p2, p3]; done) | (simp [p1, p2, p3]; omega)), rfl⟩
    · by_cases p3 : wh - off < n
      all_goals
        go_wp2_with fail
        go_meet
        exact ⟨congrArg Value.bool (by rw [← HB.out]; simp at e1 e2 e4 e8; first | (simp [p1, p2, p3]; done) | (simp [p1, p2, p3]; omega)), rfl⟩
    · go_wp2_with fail
      go_meet
      exact ⟨congrArg Value.bool (by rw [← HB.out]; simp at e1 e2 e4 e8; first | (simp [p1, p2]; done) | (simp [p1, p2]; omega)), rfl⟩
  case rest =>
  obtain ⟨rfl, rfl⟩ := hcut
  cases bad with
  | true =>
    rw [if_pos rfl] at hR
    clear hbad
    go_wp2_with fail
    go_ret2
    exact ⟨by rw [← HR.out, hR]; rfl, hk1⟩
  | false =>
  rw [if_neg (by simp)] at hR
  simp only [decide_eq_false_iff_not] at hbad
  have hn1 : 1 ≤ n ∧ n ≤ 8 := by omega
  have hoff : 0 ≤ off ∧ off ≤ 65537 := by omega
  clear hbad ho hnn
  have hR := hR.symm
  go_wp2_with fail
  refine (sizes_any l a c w1 (h.kept hk1) hg).mono ?_
  rintro e w2 ⟨mb, M, rfl, hI, hM, hmb, hk2⟩
  have hK2 := hk1.trans hk2 (fun _ _ h => h)
  go_wp2_with fail
  go_loopw [1, 2, 13] (fun iv ov sv wr => ∃ (k : Nat) (off' : Int) (way : List UInt8) (f : Nat), iv = .int .i64 ((k : Int) + 1) ∧ ov = .int .i64 off' ∧ sv = nV way ∧ k < l.length ∧ 0 ≤ off' ∧ off' ≤ 65537 ∧ kindAt l (throughL l ((k : Int) + 1)) ≠ 6 ∧ rk l ((k : Int) + 1) < f ∧
    fieldF l n f ((k : Int) + 1) off' way = RR ∧ Kept (fun _ => False) w wr ∧ Ints wr (.slice (some ⟨mb, 0, none⟩) (l.length + 1) (l.length + 1)) M ∧ way.length ≤ 33 * (l.length - rk l ((k : Int) + 1))) (fun iv _ _ _ => rk l (intOf iv))
  case atStart => exact ⟨i, off, [], l.length + 1, rfl, rfl, rfl, by omega, hoff.1, hoff.2, h6, Nat.lt_succ_of_le (rk_le l _), hR, hK2, hI, Nat.zero_le _⟩
  case round =>
    clear hk1 h6 hoff hR hk2 hK2 hI
    obtain ⟨k, off', way, f, rfl, rfl, rfl, hk, ho, hoff, h6, hrk, hfe, hK, hI, hway⟩ := hrel
    obtain ⟨f, rfl⟩ : ∃ f', f = f' + 1 := ⟨f - 1, by omega⟩
    obtain ⟨k2, t, hq1, hq2, hta, hk5⟩ := through_ix hg hk
    have hkl := (List.getElem?_eq_some_iff.1 hq2).1
    have htm := List.mem_of_getElem? hq2
    have hka : kindAt l (throughL l ((k : Int) + 1)) = t.kind := by unfold kindAt; rw [hta]; rfl
    rw [hka] at h6
    have hkk := (hg.sized hta).2.2
    have hT := h.kept hK
    have hmw := Ints.lt hI
    obtain ⟨g, o, mv, rfl, hgl, hm, c0, c1, c2, c3, c4, c5, c6⟩ := hT.at_ hq2
    obtain ⟨ma, mc, rfl⟩ := hm.any
    have hkA : Kept (fun _ => False) wr (wr.alloc (.cells (tyVals t (.slice ma t.mem.length mc)) 38)) := (Kept.refl _ wr).alloc _
    have hKA := hK.trans hkA (fun _ _ h => h)
    have hIA : Ints (wr.alloc (.cells (tyVals t (.slice ma t.mem.length mc)) 38)) (.slice (some ⟨mb, 0, none⟩) (l.length + 1) (l.length + 1)) M := Sl.alloc hI _
    have hBt := Blk.new wr 38 (tyVals t (.slice ma t.mem.length mc))
    simp only [fieldF, hta] at hfe
    have hTH := Lib.hid (refthrough_any l (some ⟨g, o, none⟩) c k wr hT hg hk)
    rw [hq1] at hTH
    have hrt : rk l (throughL l ((k : Int) + 1)) ≤ rk l ((k : Int) + 1) := through_rk hcl hac _ _
    have hfu : functionsB l t = false := by
      have := firstF_none hF (i := k2) hkl
      unfold pF at this
      rw [hq2] at this
      simpa using this
    by_cases h12 : t.kind = 1 ∨ t.kind = 2
    · as_aux_lemma =>
      rw [if_pos h12] at hfe
      have hse : sizeL l ((k2 : Int) + 1) = sizeL l ((k : Int) + 1) := size_through hq1 hta hk5
      have hcx := Ints.cell hIA (hM k2 hkl)
      rw [hse] at hcx
      have hsr := hg.size_range (rk l ((k : Int) + 1) + 1) ((k : Int) + 1) (Nat.lt_succ_self _) (by omega) (by omega)
      generalize sizeL l ((k : Int) + 1) = sz at *
      have e12 : (t.kind == 1) = true ∨ ((t.kind == 1) = false ∧ (t.kind == 2) = true) := by
        rcases h12 with e | e
        · exact .inl (by simpa using e)
        · exact .inr ⟨by simp; omega, by simpa using e⟩
      clear h12 h6 hkk hta hka hk5 hfu hrt hF hLL
      by_cases hgt : sz < off' + n
      · rw [if_pos hgt] at hfe
        have HFE := Lib.hid hfe
        clear hfe
        rcases e12 with e1 | ⟨e1, e2⟩
        all_goals
          go_wp2_with fail
          refine hTH.out.mono ?_
          rintro e w2 ⟨rfl, rfl⟩
          go_wp2_with fail
          go_ret2
          exact ⟨by rw [← HR.out, ← HFE.out]; rfl, hKA⟩
      · rw [if_neg hgt] at hfe
        have HFE := Lib.hid hfe
        clear hfe
        rcases e12 with e1 | ⟨e1, e2⟩
        all_goals
          go_wp2_with fail
          refine hTH.out.mono ?_
          rintro e w2 ⟨rfl, rfl⟩
          go_wp2_with fail
          go_ret2
          exact ⟨by rw [← HR.out, ← HFE.out]; rfl, hKA⟩
    rw [if_neg h12] at hfe
    by_cases h3 : t.kind = 3
    · as_aux_lemma =>
      rw [if_pos h3] at hfe
      have hs := array_succ hta h3
      have hmt := hcl _ _ hs
      have hrk2 := rk_lt hcl hac hs
      obtain ⟨k', hk'⟩ : ∃ k' : Nat, t.to = (k' : Int) + 1 := ⟨(t.to - 1).toNat, by omega⟩
      have h6n : kindAt l (throughL l ((k' : Int) + 1)) ≠ 6 := by
        unfold functionsB at hfu
        rw [if_neg (by omega), List.any_eq_false] at hfu
        have := hfu t.to (by
          unfold holdsL
          rw [if_pos (.inr h3)]
          exact List.mem_singleton.2 rfl)
        rw [← hk']
        simpa using this
      have hkl' : k' < l.length := by omega
      have hsr := hg.size_range (rk l t.to + 1) t.to (Nat.lt_succ_self _) (by omega) (by omega)
      have hcx := Ints.cell hIA (hM k' hkl')
      have hb4 : (wr.alloc (.cells (tyVals t (.slice ma t.mem.length mc)) 38)).cell? ⟨wr.heap.size, 4, none⟩ = some (.int .i64 ((k' : Int) + 1)) := by rw [← hk']; exact hBt.cell 4
      rw [hk'] at hfe hsr hrk2
      have e1 : (t.kind == 1) = false := by simp; omega
      have e2 : (t.kind == 2) = false := by simp; omega
      have e3 : (t.kind == 3) = true := by simpa using h3
      have hrn := rk_le l ((k : Int) + 1)
      have hway2 : way.length ≤ 10000 := by omega
      have hrel : rk l ((k' : Int) + 1) < rk l ((k : Int) + 1) := by omega
      have hrf : rk l ((k' : Int) + 1) < f := by omega
      have hway3 : way.length + 33 ≤ 33 * (l.length - rk l ((k' : Int) + 1)) := by omega
      clear h12 h3 h6 hkk hfu hrk2 hrt hs hway hrk hka hk' hmt hta hk5 hF hLL
      have hfe2 : (if sizeL l ((k' : Int) + 1) = 0 then (([], 41) : List UInt8 × Int) else if sizeL l ((k' : Int) + 1) < off' % sizeL l ((k' : Int) + 1) + n then ([], 41) else fieldF l n f ((k' : Int) + 1) (off' % sizeL l ((k' : Int) + 1)) (way ++ 91 :: (Lib.itoa (off' / sizeL l ((k' : Int) + 1)) ++ [93]))) = RR := hfe
      clear hfe
      generalize sizeL l ((k' : Int) + 1) = sz at *
      by_cases hz : sz = 0
      · rw [if_pos hz] at hfe2
        have HFE := Lib.hid hfe2
        clear hfe2
        subst hz
        go_wp2_with fail
        refine hTH.out.mono ?_
        rintro e w2 ⟨rfl, rfl⟩
        go_wp2_with fail
        go_ret2
        exact ⟨by rw [← HR.out, ← HFE.out]; rfl, hKA⟩
      · rw [if_neg hz] at hfe2
        have hz1 : (sz == 0) = false := by simpa using hz
        have q0 : 0 ≤ off' / sz := Int.ediv_nonneg ho (by omega)
        have q1 : off' / sz ≤ 65537 := Int.le_trans (Int.ediv_le_self _ ho) hoff
        have r0 : 0 ≤ off' % sz := Int.emod_nonneg _ hz
        have r1 : off' % sz ≤ 65537 := by have := Int.emod_lt_of_pos off' (show 0 < sz by omega); omega
        have r2 : off' % sz < sz := Int.emod_lt_of_pos off' (show 0 < sz by omega)
        obtain ⟨q, hq⟩ : ∃ q : Nat, off' / sz = (q : Int) := ⟨(off' / sz).toNat, by omega⟩
        have hIT := Lib.hid (fun W => plain_any q W (by omega))
        rw [← hq] at hIT
        have hil := itoa_len (off' / sz) q0 (by omega)
        generalize Lib.itoa (off' / sz) = it at *
        have hcat1 : (ByteArray.mk way.toArray) ++ (ByteArray.mk #[91]) = ByteArray.mk (way ++ [91]).toArray := by
          apply ByteArray.ext
          simp [ByteArray.data_append]
        have hcat2 : (ByteArray.mk (way ++ [91]).toArray) ++ (ByteArray.mk it.toArray) = ByteArray.mk (way ++ 91 :: it).toArray := by
          apply ByteArray.ext
          simp [ByteArray.data_append]
        have hcat3 : (ByteArray.mk (way ++ 91 :: it).toArray) ++ (ByteArray.mk #[93]) = ByteArray.mk (way ++ 91 :: (it ++ [93])).toArray := by
          apply ByteArray.ext
          simp [ByteArray.data_append]
        have HZ := Lib.hid hz
        clear hz hq
        by_cases hgt : sz < off' % sz + n
        · rw [if_pos hgt] at hfe2
          have HFE := Lib.hid hfe2
          clear hfe2
          go_wp2_with fail
          refine hTH.out.mono ?_
          rintro e w2 ⟨rfl, rfl⟩
          go_wp2_with fail
          refine (hIT.out _).mono ?_
          rintro e w4 ⟨rfl, hk4⟩
          have hb44 := (hk4.blk (fun h => h) hBt).cell 4
          go_wp2_with fail
          go_ret2
          exact ⟨by rw [← HR.out, ← HFE.out]; rfl, hKA.trans hk4 (fun _ _ h => h)⟩
        · rw [if_neg hgt] at hfe2
          have HFE := Lib.hid hfe2
          clear hfe2
          go_wp2_with fail
          refine hTH.out.mono ?_
          rintro e w2 ⟨rfl, rfl⟩
          go_wp2_with fail
          refine (hIT.out _).mono ?_
          rintro e w4 ⟨rfl, hk4⟩
          have hb44 : w4.cell? ⟨wr.heap.size, 4, none⟩ = some (.int .i64 ((k' : Int) + 1)) := by rw [hk4.cell (by simp) (fun h => h)]; exact hb4
          have hI4 := Sl.kept hk4 hIA (fun _ _ h => h)
          go_wp2_with fail
          go_roundw
          case rel => exact ⟨k', off' % sz, way ++ 91 :: (it ++ [93]), f, rfl, rfl, rfl, hkl', r0, r1, h6n, hrf, HFE.out, hKA.trans hk4 (fun _ _ h => h), hI4, by simp; omega⟩
          case measure =>
            simp only [intOf]
            exact hrel
    · as_aux_lemma =>
      rw [if_neg h3] at hfe
      have h4 : t.kind = 4 := by omega
      have hlaid : laidM l t.size t.mem 0 = true := by
        have h1 := firstF_none hLL (i := k2) hkl
        unfold pL at h1
        rw [hq2] at h1
        simp only [Option.map_some, Option.getD_some, Bool.not_eq_false'] at h1
        unfold laidB at h1
        rw [if_neg h3, if_pos h4] at h1
        exact h1
      have hsuc : ∀ m ∈ t.mem, m.type ∈ succL l (throughL l ((k : Int) + 1)) := fun m hm => by
        unfold succL
        rw [hta]
        unfold holdsL
        simp only
        rw [if_neg (by omega), if_pos h4]
        exact List.mem_map.2 ⟨m, hm, rfl⟩
      have hms : ∀ m ∈ t.mem, 1 ≤ m.type ∧ m.type ≤ (l.length : Int) := fun m hm => hcl _ _ (hsuc m hm)
      have hsz : ∀ m ∈ t.mem, 0 ≤ sizeL l m.type ∧ sizeL l m.type ≤ 65537 := fun m hm => hg.size_range (rk l m.type + 1) m.type (Nat.lt_succ_self _) (hms m hm).1 (hms m hm).2
      have hbits := hg.bits t htm
      have h64 := hg.fit.mem t htm
      have e1 : (t.kind == 1) = false := by simp; omega
      have e2 : (t.kind == 2) = false := by simp; omega
      have e3 : (t.kind == 3) = false := by simp; omega
      have hmA := hm.kept hkA
      have H4 := Lib.hid h4
      have HFE := Lib.hid hfe
      have HS := Lib.hid hsz
      have HM := Lib.hid hms
      have HBI := Lib.hid hbits
      have HLA := Lib.hid hlaid
      have HSU := Lib.hid hsuc
      have hb6 : (wr.alloc (.cells (tyVals t (.slice ma t.mem.length mc)) 38)).cell? ⟨wr.heap.size, 6, none⟩ = some (.slice ma t.mem.length mc) := hBt.cell 6
      clear h12 h3 h6 hkk h4 hfe hsz hms hbits hlaid hsuc hta
      go_wp2_with fail
      refine hTH.out.mono ?_
      rintro e w2 ⟨rfl, rfl⟩
      go_upto_block 3 with fail
      go_cut [16, 17] (fun kv _ wx => ∃ K : Int, kv = .int .i64 K ∧ ((K = -1 ∧ ∀ m ∈ t.mem, covB l off' m = false) ∨ ∃ (q : Nat) (m : Mb), K = q ∧ t.mem[q]? = some m ∧ covB l off' m = true) ∧ wr.alloc (.cells (tyVals t (.slice ma t.mem.length mc)) 38) = wx)
      case first =>
        as_aux_lemma =>
        go_wp2_with fail
        go_loopw [16, 17] (fun kv jv wx => ∃ (K : Int) (j : Nat), kv = .int .i64 K ∧ jv = .int .i64 j ∧ j ≤ t.mem.length ∧ ((K = -1 ∧ ∀ m ∈ t.mem.take j, covB l off' m = false) ∨ ∃ (q : Nat) (m : Mb), K = q ∧ t.mem[q]? = some m ∧ covB l off' m = true) ∧ wr.alloc (.cells (tyVals t (.slice ma t.mem.length mc)) 38) = wx) (fun _ jv _ => t.mem.length - (intOf jv).toNat)
        case atStart => exact ⟨-1, 0, rfl, rfl, Nat.zero_le _, .inl ⟨rfl, by simp⟩, rfl⟩
        case round =>
          obtain ⟨K, j, rfl, rfl, hj, hKj, rfl⟩ := hrel
          have HKJ := Lib.hid hKj
          clear hKj
          by_cases hlt : j < t.mem.length
          case neg =>
            obtain rfl : j = t.mem.length := by omega
            go_wp2_with fail
            go_meet
            have hKj := HKJ.out
            rw [List.take_length] at hKj
            exact ⟨K, rfl, hKj, rfl⟩
          case pos =>
          obtain ⟨m, hmk⟩ : ∃ m, t.mem[j]? = some m := ⟨_, List.getElem?_eq_getElem hlt⟩
          have hmi := List.mem_of_getElem? hmk
          obtain ⟨mg, mo, rfl, hmg, m0, m1, m2⟩ := hmA.at_ hmk
          have hb0 : 0 ≤ m.bits := laidM_bits HLA.out m hmi
          have hb9 := HBI.out m hmi
          have htd : m.bits.tdiv 8 = m.bits / 8 := Int.tdiv_eq_ediv_of_nonneg hb0
          obtain ⟨k', hk'⟩ : ∃ k' : Nat, m.type = (k' : Int) + 1 := ⟨(m.type - 1).toNat, by have := HM.out m hmi; omega⟩
          have hkl' : k' < l.length := by have := HM.out m hmi; omega
          have hsr := HS.out m hmi
          have hcx := Ints.cell hIA (hM k' hkl')
          have hcv : covB l off' m = (decide (m.bits / 8 ≤ off') && decide (off' < m.bits / 8 + sizeL l m.type)) := by unfold covB; rw [htd]
          rw [hk'] at m1 hsr hcv
          have HCV := Lib.hid hcv
          have HMK := Lib.hid hmk
          have hold : covB l off' m = false → ((K = -1 ∧ ∀ m ∈ t.mem.take (j + 1), covB l off' m = false) ∨ ∃ (q : Nat) (m : Mb), K = q ∧ t.mem[q]? = some m ∧ covB l off' m = true) := fun e => by
            rcases HKJ.out with ⟨h1, h2⟩ | h
            · refine .inl ⟨h1, fun x hx => ?_⟩
              rw [List.take_add_one, HMK.out] at hx
              rcases List.mem_append.1 hx with hx | hx
              · exact h2 x hx
              · have hxm : x = m := by simpa using hx
                rw [hxm]
                exact e
            · exact .inr h
          have HOLD := Lib.hid hold
          clear hcv hmk hold htd hk'
          generalize sizeL l ((k' : Int) + 1) = sz at *
          have hlo : m.bits / 8 ≤ 1152921504606846975 := by omega
          have hl0 : 0 ≤ m.bits / 8 := by omega
          by_cases h1 : m.bits / 8 ≤ off'
          · by_cases h2 : off' < m.bits / 8 + sz
            · have hc : covB l off' m = true := by rw [HCV.out, decide_eq_true h1, decide_eq_true h2]; rfl
              have HC := Lib.hid hc
              clear hc
              go_wp2_with fail
              exact ⟨⟨(j : Int), j + 1, rfl, by go_num, by omega, .inr ⟨j, m, rfl, HMK.out, HC.out⟩, trivial⟩, by simp [intOf]; omega⟩
            · have hc : covB l off' m = false := by rw [HCV.out, decide_eq_false h2]; simp
              have HC := Lib.hid hc
              clear hc
              go_wp2_with fail
              exact ⟨⟨K, j + 1, rfl, by go_num, by omega, HOLD.out HC.out, trivial⟩, by simp [intOf]; omega⟩
          · have hc : covB l off' m = false := by rw [HCV.out, decide_eq_false h1]; simp
            have HC := Lib.hid hc
            clear hc
            go_wp2_with fail
            exact ⟨⟨K, j + 1, rfl, by go_num, by omega, HOLD.out HC.out, trivial⟩, by simp [intOf]; omega⟩
      case rest =>
      obtain ⟨K, rfl, hKj, rfl⟩ := hcut
      have hs0 : ∀ m ∈ t.mem, 0 ≤ sizeL l m.type := fun m hm => (HS.out m hm).1
      rcases hKj with ⟨rfl, hno⟩ | ⟨q, m, rfl, hmq, hcov⟩
      · as_aux_lemma =>
        have hmr := memberR_nil (n := n) hn1.1 hno
        have hfe := HFE.out
        rw [if_neg (by rw [hmr]; simp)] at hfe
        have HFE := Lib.hid hfe
        clear hfe hno hs0 hmr
        go_wp2_with fail
        go_ret2
        exact ⟨by rw [← HR.out, ← HFE.out]; rfl, hKA⟩
      · as_aux_lemma =>
        have hmr := memberR_cov HLA.out hs0 hn1.1 hmq hcov
        have hfe := HFE.out
        rw [hmr] at hfe
        have hqn : q < t.mem.length := (List.getElem?_eq_some_iff.1 hmq).1
        have hmi := List.mem_of_getElem? hmq
        obtain ⟨mg, mo, rfl, hmg, m0, m1, m2⟩ := hmA.at_ hmq
        have hb0 : 0 ≤ m.bits := laidM_bits HLA.out m hmi
        have hb9 := HBI.out m hmi
        have htd : m.bits.tdiv 8 = m.bits / 8 := Int.tdiv_eq_ediv_of_nonneg hb0
        have hs := HSU.out m hmi
        have hrk2 := rk_lt hcl hac hs
        obtain ⟨k', hk'⟩ : ∃ k' : Nat, m.type = (k' : Int) + 1 := ⟨(m.type - 1).toNat, by have := HM.out m hmi; omega⟩
        have hkl' : k' < l.length := by have := HM.out m hmi; omega
        have hsr := HS.out m hmi
        have hcx := Ints.cell hIA (hM k' hkl')
        unfold covB at hcov
        rw [htd] at hcov hfe
        have h6n : kindAt l (throughL l ((k' : Int) + 1)) ≠ 6 := by
          unfold functionsB at hfu
          rw [if_neg (by have := H4.out; omega), List.any_eq_false] at hfu
          have := hfu m.type (by
            have h5 := H4.out
            unfold holdsL
            rw [if_neg (by omega), if_pos h5]
            exact List.mem_map.2 ⟨m, hmi, rfl⟩)
          rw [← hk']
          simpa using this
        have hnl := alone_names (hg.alone k2 t hq2) (by have := H4.out; omega) m hmi
        rw [hk'] at m1 hsr hcov hfe hrk2
        simp only [Bool.and_eq_true, decide_eq_true_eq] at hcov
        obtain ⟨v1, v2⟩ := hcov
        have hrn := rk_le l ((k : Int) + 1)
        have hway2 : way.length ≤ 10000 := by omega
        have hrel : rk l ((k' : Int) + 1) < rk l ((k : Int) + 1) := by omega
        have hrf : rk l ((k' : Int) + 1) < f := by omega
        have hway3 : way.length + 33 ≤ 33 * (l.length - rk l ((k' : Int) + 1)) := by omega
        have hcat1 : (ByteArray.mk way.toArray) ++ (ByteArray.mk #[46]) = ByteArray.mk (way ++ [46]).toArray := by
          apply ByteArray.ext
          simp [ByteArray.data_append]
        have hcat2 : (ByteArray.mk (way ++ [46]).toArray) ++ (ByteArray.mk m.name.toArray) = ByteArray.mk (way ++ 46 :: m.name).toArray := by
          apply ByteArray.ext
          simp [ByteArray.data_append]
        have hKB := hKA.alloc (.cells #[nV m.name, .int .i64 ((k' : Int) + 1), .int .i64 m.bits] 42)
        have hIB : Ints ((wr.alloc (.cells (tyVals t (.slice (some ⟨mg, mo, none⟩) t.mem.length mc)) 38)).alloc (.cells #[nV m.name, .int .i64 ((k' : Int) + 1), .int .i64 m.bits] 42)) (.slice (some ⟨mb, 0, none⟩) (l.length + 1) (l.length + 1)) M := Sl.alloc hIA _
        have hcx2 := Ints.cell hIB (hM k' hkl')
        have hfe2 : (if off' + n ≤ m.bits / 8 + sizeL l ((k' : Int) + 1) then fieldF l n f ((k' : Int) + 1) (off' - m.bits / 8) (way ++ 46 :: m.name) else (([], 41) : List UInt8 × Int)) = RR := by
          rw [← hfe]
          by_cases hle : off' + n ≤ m.bits / 8 + sizeL l ((k' : Int) + 1)
          · rw [if_pos hle, if_pos hle, if_pos rfl]
            simp only
            rw [hk', htd]
          · rw [if_neg hle, if_neg hle, if_neg (by simp)]
        clear hfe hmr hmq hs hrk2 hk' htd hs0 hfu hway hrt hrk hka
        have hl0 : 0 ≤ m.bits / 8 := by omega
        generalize sizeL l ((k' : Int) + 1) = sz at *
        by_cases hle : off' + n ≤ m.bits / 8 + sz
        · rw [if_pos hle] at hfe2
          have HFE := Lib.hid hfe2
          clear hfe2
          go_wp2_with fail
          go_roundw
          case rel => exact ⟨k', off' - m.bits / 8, way ++ 46 :: m.name, f, rfl, rfl, rfl, hkl', by omega, by omega, h6n, hrf, HFE.out, hKB, hIB, by simp; omega⟩
          case measure =>
            simp only [intOf]
            exact hrel
        · rw [if_neg hle] at hfe2
          have HFE := Lib.hid hfe2
          clear hfe2
          go_wp2_with fail
          go_ret2
          exact ⟨by rw [← HR.out, ← HFE.out]; rfl, hKB⟩

end Go.Proofs.YtmgdjiplpfeoiaaDoor
