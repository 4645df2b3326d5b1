import Derived.Test.YtahabogjfcdjkaaGreatDp
set_option linter.unusedSimpArgs false
set_option linter.unusedVariables false
namespace Go.Proofs.YtahabogjfcdjkaaGreat
open Go.RowKit

/-! ### each operation, all its ways at once -/
section
variable {S R : MS} {C : List See}
theorem okU_kind {S : MS} {k l : List UInt8} (h : okU S k l) : S.d.kind ≠ 3 := fun h3 => by
  have := h.1
  unfold asksC at this
  rw [if_pos h3] at this
  exact absurd this (by decide)
theorem refC_new {S : MS} {flags : Int} (h : refC S false flags = 0) : (S.ent.length : Int) < S.d.entries := by
  unfold refC at h
  by_cases h1 : 2 < flags
  · rw [if_pos h1] at h; exact absurd h (by decide)
  rw [if_neg h1, if_neg (by simp), if_neg (by simp)] at h
  by_cases h2 : S.d.kind = 1
  · rw [if_pos h2] at h; exact absurd h (by decide)
  rw [if_neg h2] at h
  by_cases h3 : flags = 2
  · rw [if_pos h3] at h; exact absurd h (by decide)
  rw [if_neg h3] at h
  by_cases h4 : S.d.entries ≤ S.ent.length
  · rw [if_pos h4] at h; exact absurd h (by decide)
  omega
theorem upS_ref {S : MS} {n : Nat} {k : List UInt8} {flags : Int} (h : ¬ refC S (lookS S.ent k).isSome flags = 0) : upS S n k flags = S := by
  unfold upS; rw [if_pos h]
theorem upC_ref {S : MS} {C : List See} {k l : List UInt8} {flags : Int} (h : ¬ refC S (lookS S.ent k).isSome flags = 0) : upC S C k l flags = C := by
  unfold upC; rw [if_pos h]
theorem upS_some {S : MS} {n : Nat} {k : List UInt8} {flags : Int} {id : Int} (h : lookS S.ent k = some id) : upS S n k flags = S := by
  unfold upS; rw [h]
  split
  · rfl
  · rfl
theorem upC_some {S : MS} {C : List See} {k l : List UInt8} {flags : Int} {id : Int} (h : lookS S.ent k = some id) (hr : refC S (lookS S.ent k).isSome flags = 0) : upC S C k l flags = C.modify (id - 1).toNat fun c => (c.1.take (hidN S.d.timer) ++ l.drop (hidN S.d.timer), c.2) := by
  unfold upC; rw [if_neg (by rw [hr]; simp), h]
theorem upS_none {S : MS} {n : Nat} {k : List UInt8} {flags : Int} (h : lookS S.ent k = none) (hr : refC S (lookS S.ent k).isSome flags = 0) : upS S n k flags = { S with ent := S.ent ++ [(k, (n : Int) + 1)] } := by
  unfold upS; rw [if_neg (by rw [hr]; simp), h, if_neg (by simp)]
theorem upC_none {S : MS} {C : List See} {k l : List UInt8} {flags : Int} (h : lookS S.ent k = none) (hr : refC S (lookS S.ent k).isSome flags = 0) : upC S C k l flags = C ++ [(List.replicate (hidN S.d.timer) 0 ++ l.drop (hidN S.d.timer), true, ((hidN S.d.timer : Nat) : Int), false)] := by
  unfold upC; rw [if_neg (by rw [hr]; simp), h]
theorem Rel.upd (h : Rel S R C) (k l : List UInt8) (flags : Int) (R' : MS) (hd : R'.d = R.d) (hp : R'.progs = R.progs)
    (he : if okU R k l ∧ refC R (lookS R.ent k).isSome flags = 0 ∧ lookS R.ent k = none then ∃ p, InsAt R.ent k p ∧ R'.ent = R.ent.take p ++ (k, (C.length : Int) + 1) :: R.ent.drop p else R'.ent = R.ent) :
    Rel (staU S C.length k l flags) R' (seeU S C k l flags) := by
  have eo : okU R k l ↔ okU S k l := by unfold okU; rw [h.d]
  rw [h.look, h.ref] at he
  unfold staU seeU
  by_cases ho : okU S k l
  · rw [if_pos ho, if_pos ho]
    by_cases hr : refC S (lookS S.ent k).isSome flags = 0
    · cases hl : lookS S.ent k with
      | some id =>
        rw [if_neg (fun e => by rw [hl] at e; exact absurd e.2.2 (by simp))] at he
        rw [upS_some hl, upC_some hl hr]
        have : R' = R := by cases R; cases R'; simp only at hd hp he; subst hd hp he; rfl
        rw [this]
        exact h.mod _ _
      | none =>
        rw [if_pos ⟨eo.2 ho, hr, hl⟩] at he
        obtain ⟨p, hi, hE⟩ := he
        rw [upS_none hl hr, upC_none hl hr]
        have hfew : (S.ent.length : Int) < S.d.entries := refC_new (by rw [hl] at hr; exact hr)
        have := h.ins hi hl hfew (okU_kind ho) (List.replicate (hidN S.d.timer) 0 ++ l.drop (hidN S.d.timer), true, ((hidN S.d.timer : Nat) : Int), false)
        have e2 : R' = { R with ent := R.ent.take p ++ (k, (C.length : Int) + 1) :: R.ent.drop p } := by cases R; cases R'; simp only at hd hp hE; subst hd hp hE; rfl
        rw [e2]
        exact this
    · rw [upS_ref hr, upC_ref hr]
      rw [if_neg (fun e => hr e.2.1)] at he
      have : R' = R := by cases R; cases R'; simp only at hd hp he; subst hd hp he; rfl
      rw [this]
      exact h
  · rw [if_neg ho, if_neg ho]
    rw [if_neg (fun e => ho (eo.1 e.1))] at he
    have : R' = R := by cases R; cases R'; simp only at hd hp he; subst hd hp he; rfl
    rw [this]
    exact h
end

theorem mupd_any (x : Loc) (S R : MS) (L : List Rg) (kv bv : Value) (k l : List UInt8) (flags : Int) (w : World) (h : Mp w x S L) (hR : Rel S R (L.map Rg.see)) (hk : By w kv k) (hkx : ∀ g, kv.ownBlock = some g → ¬ fpMp x L g) (hb : By w bv l) (hs : L.length < 1000) :
    Calls Tryz.prog 16 #[.pointer (some ⟨x.q, 0, none⟩), kv, bv, .int .u64 flags] w fun e w' => ∃ v' L', e = .returned (.int .i64 (codU S k l flags)) ∧
      Mp w' { x with v := v' } (staU S L.length k l flags) L' ∧ L'.map Rg.see = seeU S (L.map Rg.see) k l flags ∧ (∀ n, fpMp { x with v := v' } L' n → fpMp x L n ∨ w.heap.size ≤ n) ∧ Kept (fun n => fpMp x L n) w w' := by
  by_cases ha : asksC S.d k.length = 0
  · by_cases hl : (l.length : Int) = S.d.value
    · have ho : okU S k l := ⟨ha, hl⟩
      obtain ⟨_, vn, hv, hpos, hv2, hh⟩ := hR.ok (okU_kind ho)
      have hf := hR.few
      have hen := hR.en
      rw [codU_ok ho]
      unfold staU seeU
      rw [if_pos ho, if_pos ho]
      exact update_all x S L kv bv k l flags w h hk (fun g hg hm => hkx g hg (.inr (.inr (.inr hm)))) hb ha hl (by omega) (by omega) (by omega) (by omega) (by omega)
    · have ho : ¬ okU S k l := fun h => hl h.2
      obtain ⟨A, c, rfl⟩ := hb.any
      unfold staU seeU
      rw [if_neg ho, if_neg ho]
      refine (update_vlen x S L kv A l.length c k flags w h hk ha hl).mono ?_
      rintro e w' ⟨rfl, rfl⟩
      refine ⟨x.v, L, ?_, h.drew, rfl, fun n hn => .inl hn, (Kept.refl _ w).drew⟩
      unfold codU
      rw [if_neg (fun hn => hn ha), if_pos hl]
  · have ho : ¬ okU S k l := fun h => ha h.1
    obtain ⟨A, c, rfl⟩ := hk.any
    unfold staU seeU
    rw [if_neg ho, if_neg ho]
    refine (update_klen x S L A k.length c bv flags w h ha).mono ?_
    rintro e w' ⟨rfl, rfl⟩
    refine ⟨x.v, L, ?_, h, rfl, fun n hn => .inl hn, Kept.refl _ w⟩
    unfold codU
    rw [if_pos ha]

/-- what came in, as bytes of the caller's: readable where it isn't empty -/
def Raw (w : World) (v : Value) (l : List UInt8) : Prop := ∃ A c, v = .slice A l.length c ∧ (0 < l.length → By w v l)
theorem Raw.kept {w w' : World} {v : Value} {l : List UInt8} {F : Nat → Prop} (h : Raw w v l) (hk : Kept F w w') (hF : 0 < l.length → ∀ g, v.ownBlock = some g → ¬ F g) : Raw w' v l := by
  obtain ⟨A, c, rfl, hb⟩ := h
  exact ⟨A, c, rfl, fun h0 => (hb h0).kept hk (hF h0)⟩
theorem Raw.quiet {w w' : World} {v : Value} {l : List UInt8} (h : Raw w v l) (hk : Kept (fun _ => False) w w') : Raw w' v l := h.kept hk fun _ _ _ e => e

theorem rupd_any (y : RLoc) (S R : MS) (M : List Rg) (kv bv : Value) (k l : List UInt8) (flags : Int) (w : World) (h : RMp w y R M) (hR : Rel S R (M.map Rg.see)) (hk : Raw w kv k) (hkx : 0 < k.length → ∀ g, kv.ownBlock = some g → ¬ fpR y M g) (hb : Raw w bv l) (hbx : 0 < l.length → ∀ g, bv.ownBlock = some g → ¬ fpR y M g) (hs : M.length < 1000) (hf0 : 0 ≤ flags) :
    Calls Tryz.prog 23 #[.pointer (some ⟨y.q, 0, none⟩), kv, bv, .int .u64 flags] w fun e w' => ∃ v' lv' R' M', e = .returned (.int .i64 (codU S k l flags)) ∧
      RMp w' { y with v := v', lv := lv' } R' M' ∧ M'.map Rg.see = seeU S (M.map Rg.see) k l flags ∧ Rel (staU S M.length k l flags) R' (M'.map Rg.see) ∧ (∀ n, fpR { y with v := v', lv := lv' } M' n → fpR y M n ∨ w.heap.size ≤ n) ∧ Kept (fun n => fpR y M n) w w' := by
  have hml : (M.map Rg.see).length = M.length := List.length_map _
  by_cases ha : asksC S.d k.length = 0
  case neg =>
    have ho : ¬ okU S k l := fun h => ha h.1
    obtain ⟨A, c, rfl, hkb⟩ := hk
    obtain ⟨A2, c2, rfl, hbb⟩ := hb
    unfold staU seeU
    rw [if_neg ho, if_neg ho]
    have haR : asksC R.d k.length ≠ 0 := by rw [hR.d]; exact ha
    refine (rupdate_len y R M A k.length c A2 l.length c2 flags w h haR).mono ?_
    rintro e w' ⟨rfl, rfl⟩
    refine ⟨y.v, y.lv, R, M, ?_, h, rfl, hR, fun n hn => .inl hn, Kept.refl _ w⟩
    unfold codU
    rw [if_pos ha, hR.d]
  case pos =>
  have haR : asksC R.d k.length = 0 := by rw [hR.d]; exact ha
  by_cases hl : (l.length : Int) = S.d.value
  case neg =>
    have ho : ¬ okU S k l := fun h => hl h.2
    obtain ⟨A, c, rfl, hkb⟩ := hk
    obtain ⟨A2, c2, rfl, hbb⟩ := hb
    unfold staU seeU
    rw [if_neg ho, if_neg ho]
    refine (rupdate_vlen y R M A k.length c A2 l.length c2 flags w h haR (by rw [hR.d]; exact hl)).mono ?_
    rintro e w' ⟨rfl, rfl⟩
    refine ⟨y.v, y.lv, R, M, ?_, h, rfl, hR, fun n hn => .inl hn, Kept.refl _ w⟩
    unfold codU
    rw [if_neg (fun hn => hn ha), if_pos hl]
  case pos =>
  have ho : okU S k l := ⟨ha, hl⟩
  have hoR : okU R k l := by unfold okU; rw [hR.d]; exact ho
  obtain ⟨hk1, vn, hv, hpos, hv2, hh⟩ := hR.ok (okU_kind ho)
  have hkey : (k.length : Int) = S.d.key := by
    have := ha
    unfold asksC at this
    rw [if_neg (okU_kind ho)] at this
    split at this
    · assumption
    · exact absurd this (by decide)
  have hkb : By w kv k := by obtain ⟨A, c, rfl, hkb⟩ := hk; exact hkb (by omega)
  have hbb : By w bv l := by obtain ⟨A, c, rfl, hbb⟩ := hb; exact hbb (by omega)
  have hlR : (l.length : Int) = R.d.value := by rw [hR.d]; exact hl
  have hfR : (R.ent.length : Int) ≤ R.d.entries := by rw [hR.len, hR.d]; exact hR.few
  have hen := hR.en
  have hfew := hR.few
  have hlen := hR.len
  have hpos' : 0 < l.length := by omega
  rw [codU_ok ho]
  by_cases hr : refC S (lookS S.ent k).isSome flags = 0
  case neg =>
    refine (rupdate_no y R M kv bv k l flags w h hkb hbb haR hlR hf0 hfR (by rw [hR.look, hR.ref]; exact hr)).mono ?_
    rintro e w' ⟨rfl, hk'⟩
    refine ⟨y.v, y.lv, R, M, by rw [hR.look, hR.ref], h.quiet hk', ?_, ?_, fun n hn => .inl hn, hk'.mono (fun n _ e => e.elim)⟩
    · unfold seeU
      rw [if_pos ho, upC_ref hr]
    · unfold staU
      rw [if_pos ho, upS_ref hr]
      exact hR
  case pos =>
  rw [hr]
  cases hlk : lookS S.ent k with
  | some id =>
    have hlkR : lookS R.ent k = some id := by rw [hR.look]; exact hlk
    obtain ⟨i, r, hid, hi, hrl⟩ := h.ids _ (lookS_mem hlkR)
    simp only at hid
    subst hid
    have hr' := hr
    rw [hlk] at hr
    refine (rupdate_old y R M kv bv k l flags w h hkb hbb haR hlR hf0 hlkR hi (by rw [hR.d] at hrl; omega) (by rw [hR.ref]; exact hr) (by rw [hR.d]; omega) (by omega)).mono ?_
    rintro e w' ⟨rfl, hM, hbl, hk'⟩
    have hsee : (M.set i { r with b := r.b.take (hidN R.d.timer) ++ l.drop (hidN R.d.timer) }).map Rg.see = seeU S (M.map Rg.see) k l flags := by
      unfold seeU
      rw [if_pos ho, upC_some hlk hr', see_set hi]
      rw [show ((i : Int) + 1 - 1).toNat = i by omega, hR.d]
      apply List.ext_getElem?
      intro j
      rw [List.getElem?_modify, List.getElem?_modify]
      by_cases e : i = j
      · subst e
        simp [hi, Rg.see]
      · simp [e]
    refine ⟨y.v, y.lv, R, M.set i { r with b := r.b.take (hidN R.d.timer) ++ l.drop (hidN R.d.timer) }, rfl, hM, hsee, ?_, ?_, hk'.mono (fun n _ e => .inr (.inr (.inr e)))⟩
    · rw [hsee]
      have := hR.upd k l flags R rfl rfl (by rw [if_neg (fun e => by rw [hlkR] at e; exact absurd e.2.2 (by simp))])
      rw [hml] at this
      exact this
    · intro n hn
      rcases hn with h | h | h | h
      · exact .inl (.inl h)
      · exact .inl (.inr (.inl h))
      · exact .inl (.inr (.inr (.inl h)))
      · exact .inl (.inr (.inr (.inr (by rw [← hbl]; exact h))))
  | none =>
    have hlkR : lookS R.ent k = none := by rw [hR.look]; exact hlk
    have hr' := hr
    rw [hlk] at hr
    refine (rupdate_new y R M kv bv k l flags w h hkb (hkx (by omega)) hbb (hbx hpos') haR hlR hf0 hfR hlkR (by rw [hR.ref]; exact hr) (by rw [hR.d]; omega) (by omega) (by omega) (by omega) (by omega)).mono ?_
    rintro e w' ⟨rfl, v', lv', g, cv, p, hM, hI, hF, hk'⟩
    have hsee : (M ++ [(⟨g, cv, List.replicate (hidN R.d.timer) 0 ++ l.drop (hidN R.d.timer), true, ((hidN R.d.timer : Nat) : Int), false⟩ : Rg)]).map Rg.see = seeU S (M.map Rg.see) k l flags := by
      unfold seeU
      rw [if_pos ho, upC_none hlk hr', hR.d]
      simp [Rg.see]
    refine ⟨v', lv', _, _, rfl, hM, hsee, ?_, hF, hk'⟩
    rw [hsee]
    have := hR.upd k l flags { R with ent := R.ent.take p ++ (k, (M.length : Int) + 1) :: R.ent.drop p } rfl rfl (by
      rw [if_pos ⟨hoR, by rw [hR.look, hR.ref]; exact hr', hlkR⟩, hml]
      exact ⟨p, hI, rfl⟩)
    rw [hml] at this
    exact this

end Go.Proofs.YtahabogjfcdjkaaGreat
