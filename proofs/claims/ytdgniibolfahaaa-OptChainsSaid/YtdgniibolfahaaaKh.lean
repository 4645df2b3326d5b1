import Derived.Test.YtdgniibolfahaaaKf
import Derived.Test.YtdgniibolfahaaaIMap
set_option linter.unusedSimpArgs false
set_option linter.unusedVariables false
namespace Go.Proofs.Ytdgniibolfahaaa
open Go.RowKit

/-! ### where Jas come -/
def stepJ (l : List In) (a : Nat) : Option Nat := match l[a]? with
  | some x => if x.op = 5 then some ((a : Int) + 1 + x.off).toNat else Option.none
  | Option.none => Option.none
def iterJ (l : List In) : Nat → Nat → Option Nat
  | 0, a => some a
  | n + 1, a => (stepJ l a).bind (iterJ l n)
theorem iterJ_add (l : List In) : ∀ (n m a : Nat), iterJ l (n + m) a = (iterJ l n a).bind (iterJ l m)
  | 0, m, a => by rw [Nat.zero_add]; rfl
  | n + 1, m, a => by
    rw [show n + 1 + m = (n + m) + 1 by omega]
    unfold iterJ
    cases h : stepJ l a with
    | none => rfl
    | some b => exact iterJ_add l n m b
theorem iterJ_step {l : List In} {n a b c : Nat} (h : iterJ l n a = some b) (h2 : stepJ l b = some c) : iterJ l (n + 1) a = some c := by
  rw [iterJ_add, h]
  show (stepJ l b).bind (iterJ l 0) = some c
  rw [h2]
  rfl
def FinR (l : List In) (tgt f : Nat) : Prop := ∃ a, iterJ l a tgt = some f ∧ (stepJ l f = Option.none ∨ ∃ p m, stepJ l f = some p ∧ 1 ≤ m ∧ iterJ l m p = some p)
theorem stepJ_ok {l : List In} (h : checkI l = 0) {k b : Nat} (hs : (secL l)[k]? = some false) (hst : stepJ l k = some b) : ∃ x, l[k]? = some x ∧ x.op = 5 ∧ (k : Int) + 1 + x.off = b ∧ b < l.length ∧ (secL l)[b]? = some false ∧ ofC (partsL l) b = ofC (partsL l) k := by
  unfold stepJ at hst
  cases hx : l[k]? with
  | none => rw [hx] at hst; cases hst
  | some x =>
    rw [hx] at hst
    simp only at hst
    split at hst
    · rename_i h5
      obtain ⟨n, e, h1, h2, h3⟩ := jump_ok h hx hs (ja_jump h5)
      rw [e] at hst
      simp only [Int.toNat_natCast, Option.some.injEq] at hst
      subst hst
      exact ⟨x, rfl, h5, e, h1, h2, h3⟩
    · cases hst
theorem iterJ_ok {l : List In} (h : checkI l = 0) : ∀ {n a b : Nat}, (secL l)[a]? = some false → a < l.length → iterJ l n a = some b → b < l.length ∧ (secL l)[b]? = some false ∧ ofC (partsL l) b = ofC (partsL l) a
  | 0, a, b, hs, ha, hi => by
    cases hi
    exact ⟨ha, hs, rfl⟩
  | n + 1, a, b, hs, ha, hi => by
    unfold iterJ at hi
    cases hst : stepJ l a with
    | none => rw [hst] at hi; cases hi
    | some c =>
      rw [hst] at hi
      obtain ⟨x, _, _, _, h1, h2, h3⟩ := stepJ_ok h hs hst
      obtain ⟨h4, h5, h6⟩ := iterJ_ok h h2 h1 (n := n) hi
      exact ⟨h4, h5, h6.trans h3⟩
theorem zeroEmpty : ∀ w, (zeroValue 68).run Try.prog w = .ok (.agg #[]) w := fun w => by kernel_rfl
theorem lookI_upd {α : Type} (L : List (Int × α)) (x : Int) (u : α) (y : Int) : lookI (updI L x u) y = if x = y then some u else lookI L y := by
  induction L with
  | nil => rfl
  | cons z r ih =>
    obtain ⟨a, b⟩ := z
    simp only [updI]
    by_cases h : a = x
    · rw [if_pos h]
      simp only [lookI]
      rw [h]
      by_cases h2 : x = y
      · rw [if_pos h2, if_pos h2]
      · rw [if_neg h2, if_neg h2, if_neg h2]
    · rw [if_neg h]
      simp only [lookI]
      by_cases h2 : a = y
      · rw [if_pos h2, if_pos h2, if_neg (by omega)]
      · rw [if_neg h2, if_neg h2, ih]
theorem upd_mem {α : Type} {L : List (Int × α)} {x : Int} {u : α} {y : Int × α} (h : y ∈ updI L x u) : y ∈ L ∨ y.2 = u := by
  induction L with
  | nil =>
    rw [show updI [] x u = [(x, u)] from rfl, List.mem_singleton] at h
    exact .inr (by rw [h])
  | cons z r ih =>
    obtain ⟨a, b⟩ := z
    simp only [updI] at h
    split at h
    · rcases List.mem_cons.1 h with e | e
      · exact .inr (by rw [e])
      · exact .inl (List.mem_cons_of_mem _ e)
    · rcases List.mem_cons.1 h with e | e
      · exact .inl (by rw [e]; exact List.mem_cons_self ..)
      · rcases ih e with e | e
        · exact .inl (List.mem_cons_of_mem _ e)
        · exact .inr e
structure SetM (L : List (Int × Value)) (M : List Nat) : Prop where
  agg : ∀ y ∈ L, y.2 = .agg #[]
  mem : ∀ k : Nat, (lookI L k).isSome = true ↔ k ∈ M
theorem SetM.nil : SetM [] [] where
  agg y h := by cases h
  mem k := by simp [lookI]
theorem SetM.upd {L : List (Int × Value)} {M : List Nat} (h : SetM L M) (k : Nat) : SetM (updI L k (.agg #[])) (k :: M) where
  agg y hy := (upd_mem hy).elim (h.agg y) id
  mem j := by
    rw [lookI_upd, List.mem_cons]
    by_cases e : (k : Int) = j
    · rw [if_pos e]
      simp only [Option.isSome_some, true_iff]
      exact .inl (by omega)
    · rw [if_neg e, h.mem j]
      constructor
      · exact .inr
      · rintro (e2 | e2)
        · exact absurd (by omega) e
        · exact e2
theorem look_agg {L : List (Int × Value)} (h : ∀ y ∈ L, y.2 = .agg #[]) (k : Int) : (lookI L k).getD (.agg #[]) = .agg #[] := by
  induction L with
  | nil => rfl
  | cons z r ih =>
    obtain ⟨a, b⟩ := z
    simp only [lookI]
    split
    · have := h (a, b) (List.mem_cons_self ..)
      exact this
    · exact ih (fun y hy => h y (List.mem_cons_of_mem _ hy))
theorem nodup_lt {n : Nat} : ∀ {K : List Nat}, K.Nodup → (∀ k ∈ K, k < n) → K.length ≤ n := by
  induction n with
  | zero =>
    intro K _ h
    cases K with
    | nil => simp
    | cons k r => have := h k (List.mem_cons_self ..); omega
  | succ n ih =>
    intro K hn h
    have h1 := ih (K := K.filter fun k => k != n) (hn.filter _) (fun k hk => by
      rw [List.mem_filter] at hk
      have := h k hk.1
      have h2 : k ≠ n := by simpa using hk.2
      omega)
    have h2 : K.length ≤ (K.filter fun k => k != n).length + 1 := by
      clear h1 ih h
      induction K with
      | nil => simp
      | cons a r ih =>
        rw [List.nodup_cons] at hn
        rw [List.filter_cons]
        split
        · have := ih hn.2
          simp only [List.length_cons]
          omega
        · rename_i hc
          have ha : a = n := by simpa using hc
          have : r.filter (fun k => k != n) = r := List.filter_eq_self.2 (fun b hb => by
            have : b ≠ n := fun e => hn.1 (by rw [ha, ← e]; exact hb)
            simpa using this)
          rw [this]
          simp
    omega
/-- the search at 'k', come from 'i' by 'tgt', the Jas 'M' met -/
structure Jas (l : List In) (i tgt k : Nat) (M : List Nat) : Prop where
  at_ : ∃ a, iterJ l a tgt = some k
  met : ∀ p ∈ M, (∃ m, iterJ l m p = some k) ∧ p < l.length
  nd : M.Nodup
  new : k ∉ M ∨ stepJ l k = some k
theorem Jas.first {l : List In} {i tgt : Nat} (hi : i < l.length) (hs : stepJ l i = some tgt) : Jas l i tgt tgt [i] where
  at_ := ⟨0, rfl⟩
  met p hp := by
    rw [List.mem_singleton] at hp
    rw [hp]
    exact ⟨⟨1, by show (stepJ l i).bind (iterJ l 0) = some tgt; rw [hs]; rfl⟩, hi⟩
  nd := by simp
  new := by
    by_cases e : tgt = i
    · right
      rw [e]
      rw [e] at hs
      exact hs
    · left
      simpa using e
theorem Jas.start (l : List In) (i tgt : Nat) : Jas l i tgt tgt [] where
  at_ := ⟨0, rfl⟩
  met p hp := by cases hp
  nd := List.nodup_nil
  new := .inl (by simp)
theorem Jas.step {l : List In} {i tgt k b : Nat} {M : List Nat} (h : Jas l i tgt k M) (hk : k < l.length) (hs : stepJ l k = some b) (hb : b ∉ k :: M) : Jas l i tgt b (k :: M) where
  at_ := by
    obtain ⟨a, ha⟩ := h.at_
    exact ⟨a + 1, iterJ_step ha hs⟩
  met p hp := by
    rcases List.mem_cons.1 hp with rfl | hp
    · exact ⟨⟨1, by show (stepJ l p).bind (iterJ l 0) = some b; rw [hs]; rfl⟩, hk⟩
    · obtain ⟨⟨m, hm⟩, hpl⟩ := h.met p hp
      exact ⟨⟨m + 1, iterJ_step hm hs⟩, hpl⟩
  nd := by
    rw [List.nodup_cons]
    refine ⟨?_, h.nd⟩
    rcases h.new with e | e
    · exact e
    · exfalso
      rw [e] at hs
      cases hs
      exact hb (List.mem_cons_self ..)
  new := .inl hb
theorem Jas.stop {l : List In} {i tgt k b : Nat} {M : List Nat} (h : Jas l i tgt k M) (hs : stepJ l k = some b) (hb : b ∈ k :: M) : FinR l tgt k := by
  obtain ⟨a, ha⟩ := h.at_
  refine ⟨a, ha, .inr ?_⟩
  rcases List.mem_cons.1 hb with rfl | hb
  · exact ⟨b, 1, hs, Nat.le_refl _, by show (stepJ l b).bind (iterJ l 0) = some b; rw [hs]; rfl⟩
  · obtain ⟨⟨m, hm⟩, _⟩ := h.met b hb
    exact ⟨b, m + 1, hs, by omega, iterJ_step hm hs⟩
theorem Jas.fin {l : List In} {i tgt k : Nat} {M : List Nat} (h : Jas l i tgt k M) (hs : stepJ l k = Option.none) : FinR l tgt k := by
  obtain ⟨a, ha⟩ := h.at_
  exact ⟨a, ha, .inl hs⟩
/-- what the search comes tgt is where Jas end, if they do -/
theorem FinR.eq {l : List In} {tgt f e n : Nat} (h : FinR l tgt f) (he : iterJ l n tgt = some e) (hs : stepJ l e = Option.none) : f = e := by
  obtain ⟨a, ha, hf⟩ := h
  have hnone : ∀ m, 1 ≤ m → iterJ l (n + m) tgt = Option.none := fun m hm => by
    rw [iterJ_add, he]
    show iterJ l m e = Option.none
    obtain ⟨m', rfl⟩ : ∃ m', m = m' + 1 := ⟨m - 1, by omega⟩
    unfold iterJ
    rw [hs]
    rfl
  have hle : a ≤ n := by
    rcases Nat.lt_or_ge n a with h1 | h1
    · have := hnone (a - n) (by omega)
      rw [show n + (a - n) = a by omega, ha] at this
      cases this
    · exact h1
  rcases hf with hf | ⟨p, m, hp, hm, hc⟩
  · rcases Nat.eq_or_lt_of_le hle with rfl | hlt
    · rw [ha] at he
      exact Option.some.inj he
    · have := iterJ_add l a (n - a) tgt
      rw [show a + (n - a) = n by omega, he, ha] at this
      have h2 : iterJ l (n - a) f = some e := this.symm
      obtain ⟨q, hq⟩ : ∃ q, n - a = q + 1 := ⟨n - a - 1, by omega⟩
      rw [hq] at h2
      unfold iterJ at h2
      rw [hf] at h2
      cases h2
  · exfalso
    have h1 := iterJ_step ha hp
    have hrep : ∀ q, iterJ l (a + 1 + q * m) tgt = some p := fun q => by
      induction q with
      | zero => rw [Nat.zero_mul, Nat.add_zero]; exact h1
      | succ q ih =>
        rw [Nat.succ_mul, ← Nat.add_assoc, iterJ_add, ih]
        exact hc
    have h2 := hrep (n + 1)
    have h3 : n + 1 ≤ (n + 1) * m := Nat.le_mul_of_pos_right _ hm
    have h4 := hnone (a + 1 + (n + 1) * m - n) (by omega)
    rw [show n + (a + 1 + (n + 1) * m - n) = a + 1 + (n + 1) * m by omega, h2] at h4
    cases h4

end Go.Proofs.Ytdgniibolfahaaa
set_option linter.unusedSimpArgs false
set_option linter.unusedVariables false
namespace Go.Proofs.Ytdgniibolfahaaa
open Go.RowKit

/-! ### opt.final -/
theorem stepJ_at {l : List In} (h : checkI l = 0) {k : Nat} {x : In} (hx : l[k]? = some x) (hs : (secL l)[k]? = some false) :
    (x.op ≠ 5 ∧ stepJ l k = Option.none) ∨ (x.op = 5 ∧ ∃ b : Nat, stepJ l k = some b ∧ (k : Int) + 1 + x.off = b ∧ b < l.length ∧ (secL l)[b]? = some false) := by
  by_cases h5 : x.op = 5
  · obtain ⟨n, e, h1, h2, h3⟩ := jump_ok h hx hs (ja_jump h5)
    refine .inr ⟨h5, n, ?_, e, h1, h2⟩
    unfold stepJ
    rw [hx]
    simp only [if_pos h5, e, Int.toNat_natCast]
  · refine .inl ⟨h5, ?_⟩
    unfold stepJ
    rw [hx]
    simp only [if_neg h5]
set_option maxHeartbeats 8000000 in
set_option maxRecDepth 100000 in
theorem final_any (l : List In) (a : Option Addr) (c i tgt : Nat) (x : In) (w : World) (h : Ins w (.slice a l.length c) l) (hok : InsOk l) (hc : checkI l = 0) (hx : l[i]? = some x) (hs : (secL l)[i]? = some false)
    (ht : (i : Int) + 1 + x.off = tgt) (htl : tgt < l.length) (hts : (secL l)[tgt]? = some false) :
    Calls Try.prog 32 #[.slice a l.length c, .int .i64 i, .int .i64 tgt] w fun e w' => ∃ f : Nat, e = .returned (.int .i64 f) ∧ FinR l tgt f ∧ Kept (fun _ => False) w w' := by
  have h4096 := (slots_zero (check_parts hc).1).2.1
  have hi := (List.getElem?_eq_some_iff.1 hx).1
  have hxoff := (hok.at_ hx).off
  have HIN := Lib.hid (fun (W : World) (hk : Kept (fun _ => False) w W) => h.kept hk)
  have HAT := Lib.hid (fun k x hx hs => stepJ_at (l := l) hc (k := k) (x := x) hx hs)
  have HOFF := Lib.hid (fun k x (hx : l[k]? = some x) => (hok.at_ hx).off)
  have hst := stepJ_at hc hx hs
  have hM0 : IMap (w.alloc (.map #[] 0)) .i64 w.heap.size [] := IMap.made w .i64
  have hK0 : Kept (fun _ => False) w (w.alloc (.map #[] 0)) := (Kept.refl _ w).alloc _
  obtain ⟨g, off, rfl, hg, c0, c1, c2, c3, c4⟩ := (h.kept hK0).at_ hx
  have hJ : (x.op == 5) = true ∧ Jas l i tgt tgt [i] ∨ (x.op == 5) = false := by
    rcases hst with ⟨h5, _⟩ | ⟨h5, b, hb, e, _⟩
    · exact .inr (by simpa using h5)
    · refine .inl ⟨by simpa using h5, Jas.first hi ?_⟩
      rw [hb]
      congr 1
      omega
  have HJ0 := Lib.hid (Jas.start l i tgt)
  clear hst
  have hmm := @run_makeMap Try.prog
  go_enter Try.func32, Try.ntmps32
  go_upto_if 18 with fail
  go_cut [18] (fun _ wx => ∃ L M, IMap wx .i64 w.heap.size L ∧ SetM L M ∧ Jas l i tgt tgt M ∧ Kept (fun _ => False) w wx)
  case first =>
    rcases hJ with ⟨h5, hj⟩ | h5
    · have HJ1 := Lib.hid hj
      clear hj
      go_wp2_with (refine wpList_updI rfl (.tmp 19) (.tmp 20) (.tmp 21) 67 rfl Try.underlying67 Try.underlying3 hM0 i (.agg #[]) rfl rfl rfl ?_; intro w6 h6 hk6)
      go_meet
      exact ⟨_, _, h6, SetM.nil.upd i, HJ1.out, hK0.trans hk6 (fun k hk e => by omega)⟩
    · clear hM0
      have hM0 : IMap (w.alloc (.map #[] 0)) .i64 w.heap.size [] := IMap.made w .i64
      have HM0 := Lib.hid hM0
      clear hM0
      go_wp2_with fail
      go_meet
      exact ⟨_, _, HM0.out, SetM.nil, HJ0.out, hK0⟩
  case rest =>
  obtain ⟨L, M, hM, hSM, hJ, hK⟩ := hcut
  clear hM0 hK0 c0 c1 c2 c3 c4 HJ0
  go_wp2_with fail
  go_loopg [2] (l.length) (fun n tv wr => ∃ (k : Nat) (L : List (Int × Value)) (M : List Nat), tv = .int .i64 k ∧ IMap wr .i64 w.heap.size L ∧ SetM L M ∧ Jas l i tgt k M ∧ k < l.length ∧ (secL l)[k]? = some false ∧ Kept (fun _ => False) w wr ∧ l.length - M.length ≤ n)
  case atStart => exact ⟨tgt, L, M, rfl, hM, hSM, hJ, htl, hts, hK, by omega⟩
  case round =>
    clear hM hSM hJ hK
    obtain ⟨k, L, M, rfl, hM, hSM, hJ, hkl, hks, hK, hgk⟩ := hrel
    obtain ⟨y, hy⟩ : ∃ y, l[k]? = some y := ⟨_, List.getElem?_eq_getElem hkl⟩
    obtain ⟨g', off', hgg, hg', d0, d1, d2, d3, d4⟩ := (HIN.out _ hK).at_ hy
    cases hgg
    have hyoff := HOFF.out k y hy
    rcases HAT.out k y hy hks with ⟨h5, hst⟩ | ⟨h5, b, hst, hb, hbl, hbs⟩
    · have h5d : (y.op == 5) = false := by simpa using h5
      have HF := Lib.hid (hJ.fin hst)
      clear h5 hst hJ hM hSM hy HAT HOFF hgk
      go_wp2_with fail
      go_ret
      exact ⟨k, rfl, HF.out, hK⟩
    · have h5d : (y.op == 5) = true := by simpa using h5
      have HST := Lib.hid hst
      have HJ := Lib.hid hJ
      have HGK := Lib.hid hgk
      have hnd := nodup_lt hJ.nd (fun p hp => (hJ.met p hp).2)
      have HBS := Lib.hid hbs
      have HY := Lib.hid hy
      clear h5 hst hJ hy hgk hbs
      have hml := hM.lt
      have hSM2 := hSM.upd k
      have hlk : ∀ W, IMap W .i64 w.heap.size (updI L k (.agg #[])) → (Instr.lookup 67 (.map (some w.heap.size)) (.int .i64 b) true).run Try.prog W = .ok (.tuple #[.agg #[], .bool (lookI (updI L k (.agg #[])) b).isSome]) W := fun W h => by
        have := h.look2 (P := Try.prog) Try.underlying67 Try.underlying3 zeroEmpty b
        rw [look_agg hSM2.agg] at this
        exact this
      have HU := Lib.hid hSM2
      have hr1 : decide ((32767 : Int) < (b : Int) - i - 1) = false := decide_eq_false (by omega)
      have hr2 : decide ((b : Int) - i - 1 < (-32768 : Int)) = false := decide_eq_false (by omega)
      by_cases hbm : b ∈ k :: M
      case pos =>
        have hlk' : (lookI (updI L k (.agg #[])) b).isSome = true := (hSM2.mem b).2 hbm
        rw [hlk'] at hlk
        have HLK := Lib.hid hlk
        have HF := Lib.hid (HJ.out.stop HST.out hbm)
        clear hSM hSM2 hlk hlk' hbm
        go_wp2_with (refine wpList_updI rfl (.tmp 28) (.tmp 29) (.tmp 30) 67 rfl Try.underlying67 Try.underlying3 hM k (.agg #[]) rfl rfl rfl ?_; intro w6 h6 hk6; have hK6 : Kept (fun _ => False) w w6 := hK.trans hk6 (fun k hk e => by omega); obtain ⟨g', off', hgg, hg2, e0, e1, e2, e3, e4⟩ := (HIN.out _ hK6).at_ HY.out; cases hgg; have hlk1 := HLK.out w6 h6)
        go_ret
        exact ⟨k, rfl, HF.out, by first | exact hK6 | exact hK6.alloc _⟩
      case neg =>
        have hlk' : (lookI (updI L k (.agg #[])) b).isSome = false := by
          rw [Bool.eq_false_iff]
          exact fun e => hbm ((hSM2.mem b).1 e)
        rw [hlk'] at hlk
        have HLK := Lib.hid hlk
        have HF := Lib.hid (HJ.out.step hkl HST.out hbm)
        clear hSM hSM2 hlk hlk' hbm
        go_wp2_with (refine wpList_updI rfl (.tmp 28) (.tmp 29) (.tmp 30) 67 rfl Try.underlying67 Try.underlying3 hM k (.agg #[]) rfl rfl rfl ?_; intro w6 h6 hk6; have hK6 : Kept (fun _ => False) w w6 := hK.trans hk6 (fun k hk e => by omega); obtain ⟨g', off', hgg, hg2, e0, e1, e2, e3, e4⟩ := (HIN.out _ hK6).at_ HY.out; cases hgg; have hlk1 := HLK.out w6 h6)
        have hlen2 : (k :: M).length ≤ l.length := nodup_lt HF.out.nd (fun p hp => (HF.out.met p hp).2)
        go_roundg (gk - 1)
        case measure =>
          have := HGK.out
          simp only [List.length_cons] at hlen2
          omega
        case rel => exact ⟨b, _, k :: M, rfl, h6.alloc _, HU.out, HF.out, hbl, HBS.out, hK6.alloc _, by
          have := HGK.out
          simp only [List.length_cons] at hlen2 ⊢
          omega⟩

end Go.Proofs.Ytdgniibolfahaaa
