import Derived.Test.YtdgniibolfahaaaKh
import Derived.Test.YtdgniibolfahaaaKi
set_option linter.unusedSimpArgs false
set_option linter.unusedVariables false
namespace Go.Proofs.Ytdgniibolfahaaa
open Go.RowKit

/-! ### slots that are being made -/
def icells (x : In) : List Value := [.int .u8 x.op, .int .u8 x.dst, .int .u8 x.src, .int .i16 x.off, .int .i32 x.imm]
abbrev InS (w : World) (v : Value) (l : List In) : Prop := Sl w 37 5 v (l.map icells)
theorem infoIn : (Try.prog.info? 37).map (fun i => (i.zero, i.size, i.bytes)) = some (some (.agg #[.int .u8 0, .int .u8 0, .int .u8 0, .int .i16 0, .int .i32 0]), 5, 12) := by kernel_rfl
theorem icells_len (l : List In) : ∀ c ∈ l.map icells, c.length = 5 ∧ ∀ y ∈ c, y.oneCell' = true := fun c hc => by
  obtain ⟨x, _, rfl⟩ := List.mem_map.1 hc
  refine ⟨rfl, fun y hy => ?_⟩
  simp only [icells, List.mem_cons, List.not_mem_nil, or_false] at hy
  rcases hy with rfl | rfl | rfl | rfl | rfl <;> rfl
theorem InS.ins {w : World} {v : Value} {l : List In} (h : InS w v l) : Ins w v l := by
  rcases Sl.shape h with ⟨rfl, hl⟩ | ⟨g, cap, rfl, hc, hg⟩
  · have : l = [] := by simpa using hl
    subst this
    exact ⟨none, 0, rfl, Nat.le_refl _, fun i x hx => by simp at hx⟩
  · rw [List.length_map] at h hc ⊢
    refine ⟨some ⟨g, 0, none⟩, cap, rfl, hc, fun i x hx => ⟨g, 0, rfl, hg, fun k u hu => ?_⟩⟩
    have hi : (l.map icells)[i]? = some (icells x) := by rw [List.getElem?_map, hx]; rfl
    have hk : k < 5 := by
      have := (Array.getElem?_eq_some_iff.1 hu).1
      simpa using this
    rw [Nat.zero_add, Sl.cell h hi hk]
    rw [← hu]
    unfold icells
    simp
theorem Ins.src {w : World} {g off n c : Nat} {l : List In} (h : Ins w (.slice (some ⟨g, off, none⟩) n c) l) : ∀ j u, (l.map icells).flatten[j]? = some u → w.cell? ((⟨g, off, none⟩ : Addr).add j) = some u := fun j u hu => by
  have hall := fun c hc => (icells_len l c hc).1
  have hk : j % 5 < 5 := Nat.mod_lt _ (by omega)
  have hd : j = j / 5 * 5 + j % 5 := by omega
  have h2 := flatten_get hall (j / 5) (j % 5) hk
  rw [← hd, hu] at h2
  cases hx : l[j / 5]? with
  | none => rw [List.getElem?_map, hx] at h2; cases h2
  | some x =>
    rw [List.getElem?_map, hx] at h2
    obtain ⟨a, c', hv, _, hc⟩ := h
    obtain ⟨g', off', ha, hg, hcell⟩ := hc (j / 5) x hx
    cases hv
    cases ha
    have h3 := hcell (j % 5) u (by
      have : (icells x)[j % 5]? = some u := h2.symm
      unfold icells at this
      simpa using this)
    rw [add_n, show off + j = off + j / 5 * 5 + j % 5 by omega]
    exact h3

/-! ### Thread -/
def ThrAt (l t : List In) (j : Nat) : Prop := ∀ x, l[j]? = some x → ((secL l)[j]? = some false ∧ isJumpB x = true ∧ ∃ tgt f : Nat, (j : Int) + 1 + x.off = tgt ∧ FinR l tgt f ∧ f < l.length ∧ (secL l)[f]? = some false ∧ ofC (partsL l) f = ofC (partsL l) j ∧ t[j]? = some { x with off := (f : Int) - j - 1 }) ∨ (((secL l)[j]? = some true ∨ isJumpB x = false) ∧ t[j]? = some x)
structure ThrTo (l t : List In) (i : Nat) : Prop where
  len : t.length = l.length
  done : ∀ j, j < i → ThrAt l t j
  rest : ∀ j, i ≤ j → t[j]? = l[j]?
theorem ThrTo.keep {l t : List In} {i : Nat} (h : ThrTo l t i) (hi : i < l.length) (x : In) (hx : l[i]? = some x) (hc : (secL l)[i]? = some true ∨ isJumpB x = false) : ThrTo l t (i + 1) where
  len := h.len
  done j hj := by
    rcases Nat.eq_or_lt_of_le (Nat.le_of_lt_succ hj) with rfl | hlt
    · intro y hy
      rw [hx] at hy
      cases hy
      exact .inr ⟨hc, by rw [h.rest j (Nat.le_refl _), hx]⟩
    · exact h.done j hlt
  rest j hj := h.rest j (by omega)
theorem ThrTo.jump {l t : List In} {i tgt f : Nat} (h : ThrTo l t i) (hi : i < l.length) (x : In) (hx : l[i]? = some x) (hs : (secL l)[i]? = some false) (hj : isJumpB x = true) (ht : (i : Int) + 1 + x.off = tgt) (hf : FinR l tgt f) (hfl : f < l.length) (hfs : (secL l)[f]? = some false) (hfo : ofC (partsL l) f = ofC (partsL l) i) :
    ThrTo l (t.set i { x with off := (f : Int) - i - 1 }) (i + 1) where
  len := by rw [List.length_set]; exact h.len
  done j hjl := by
    rcases Nat.eq_or_lt_of_le (Nat.le_of_lt_succ hjl) with rfl | hlt
    · intro y hy
      rw [hx] at hy
      cases hy
      exact .inl ⟨hs, hj, tgt, f, ht, hf, hfl, hfs, hfo, by rw [List.getElem?_set, if_pos rfl, if_pos (by rw [h.len]; exact hi)]⟩
    · intro y hy
      have := h.done j hlt y hy
      rw [List.getElem?_set, if_neg (by omega)]
      exact this
  rest j hjl := by
    rw [List.getElem?_set, if_neg (by omega)]
    exact h.rest j (by omega)
theorem FinR.ok {l : List In} (h : checkI l = 0) {tgt f : Nat} (hf : FinR l tgt f) (hs : (secL l)[tgt]? = some false) (hl : tgt < l.length) : f < l.length ∧ (secL l)[f]? = some false ∧ ofC (partsL l) f = ofC (partsL l) tgt := by
  obtain ⟨a, ha, _⟩ := hf
  exact iterJ_ok h hs hl ha
set_option maxHeartbeats 8000000 in
set_option maxRecDepth 100000 in
theorem thread_any (l : List In) (a : Option Addr) (c : Nat) (w : World) (h : Ins w (.slice a l.length c) l) (hok : InsOk l) :
    Calls Try.prog 15 #[.slice a l.length c] w fun e w' => ∃ (ov : Value) (t : List In), e = .returned (.tuple #[ov, .int .i64 (checkI l)]) ∧ InS w' ov t ∧ (checkI l ≠ 0 → t = []) ∧ (checkI l = 0 → ThrTo l t l.length) ∧ Kept (fun _ => False) w w' ∧ ∀ g, ov.ownBlock = some g → w.heap.size ≤ g := by
  have hlen := hok.len
  have HCK := Lib.hid (fun W hI => icheck_any l a c W hI hok)
  have HSE := Lib.hid (fun W hI => second_any l a c W hI hok)
  have HIN := Lib.hid (fun (W : World) (hk : Kept (fun _ => False) w W) => h.kept hk)
  by_cases hz : checkI l = 0
  case neg =>
    have hzd : (checkI l != 0) = true := by simpa using hz
    generalize checkI l = r at *
    have HNZ := Lib.hid hz
    clear hz hok h
    go_enter Try.func15, Try.ntmps15
    go_wp2_with fail
    refine (HCK.out _ (HIN.out _ (Kept.refl _ w))).mono ?_
    rintro e w1 ⟨⟨p, rfl⟩, hk1⟩
    go_wp2_with fail
    go_ret2
    exact ⟨_, [], rfl, Sl.nil _ _ _, fun _ => rfl, fun h => absurd h HNZ.out, hk1, fun g hg => by simp [Value.ownBlock] at hg⟩
  case pos =>
  rw [hz] at HCK
  rw [hz]
  obtain ⟨hzz, _, _, _⟩ := check_parts hz
  obtain ⟨hl1, h4096, _⟩ := slots_zero hzz
  have HFI := Lib.hid (fun i tgt x W hI hx hs ht htl hts => final_any l a c i tgt x W hI hok hz hx hs ht htl hts)
  have HOJ := Lib.hid (fun i x W (hx : l[i]? = some x) => ojumps_any x W (hok.at_ hx))
  have HKN := Lib.hid (fun i x (hx : l[i]? = some x) hs => fj_eq (hok.at_ hx) (known_of hzz hx hs))
  have HJO := Lib.hid (fun i x (hx : l[i]? = some x) hs hj => jump_ok hz (i := i) (x := x) hx hs hj)
  have HFO := Lib.hid (fun tgt f hf hs hl => FinR.ok (tgt := tgt) (f := f) hz hf hs hl)
  have HOFF := Lib.hid (fun i x (hx : l[i]? = some x) => (hok.at_ hx).off)
  obtain ⟨i0, hI0, hI1, hI2, hI3⟩ := info_parts infoIn
  clear hz hzz hok
  go_enter Try.func15, Try.ntmps15
  go_wp2_with fail
  refine (HCK.out _ (HIN.out _ (Kept.refl _ w))).mono ?_
  rintro e w1 ⟨⟨p, rfl⟩, hk1⟩
  obtain ⟨x0, hx0⟩ : ∃ x, l[0]? = some x := ⟨_, List.getElem?_eq_getElem (by omega)⟩
  obtain ⟨lg, lo, rfl, -, -⟩ := h.at_ hx0
  have HSRC := Lib.hid (fun (W : World) (hk : Kept (fun _ => False) w W) => (HIN.out W hk).src)
  clear hx0 x0 h
  go_wp2_with (first
    | (at_make; refine wpList_makeRow (w := w1) rfl (.tmp 19) (.tmp 19) 22 rfl (.agg #[.int .u8 0, .int .u8 0, .int .u8 0, .int .i16 0, .int .i32 0]) 5 rfl (by omega) Try.underlying22 hI0 hI1 hI2 hI3 (by omega) l.length rfl rfl (by omega) ?_; intro w2 hO2 hk2; have hK2 := hk1.trans hk2 (fun _ _ h => h))
    | (refine wpList_copyRow (w := w2) rfl (.tmp 21) (.tmp 22) 22 rfl Try.underlying22 hI0 hI2 w1.heap.size l.length l.length l.length c _ (l.map icells) rfl hO2 (by simp) (icells_len l) ⟨lg, lo, none⟩ rfl (HSRC.out _ hK2) ?_; intro w3 hO3 hk3; have hK3 : Kept (fun _ => False) w w3 := hK2.trans hk3 (fun k hk e => by have := hk1.size; omega)))
  refine (HSE.out _ (HIN.out _ hK3)).mono ?_
  rintro e w4 ⟨sv, rfl, hS, hk4, hsv⟩
  have hK4 := hK3.trans hk4 (fun _ _ h => h)
  have hO4 : InS w4 (.slice (some ⟨w1.heap.size, 0, none⟩) l.length l.length) l := Sl.kept hk4 hO3 (fun _ _ h => h)
  obtain ⟨sg, sc, rfl, hsl, hsg⟩ := Sl.some_ hS (by rw [List.length_map, sec_len]; omega)
  rw [List.length_map, sec_len] at *
  have hog := Sl.lt hO3 _ rfl
  have hne : w1.heap.size ≠ sg := by
    have h1 := hsv sg rfl
    have h2 : w1.heap.size < w3.heap.size := hog
    omega
  have hsz1 := hk1.size
  clear hO2 hO3 hk1 hk2 hk3 hk4 hK2 hK3 hsv hog HSE HCK
  have HSS := Lib.hid (fun (W : World) (hk : Kept (fun _ => False) w4 W) => (Sl.kept hk hS (fun _ _ h => h) : Bls W (.slice (some ⟨sg, 0, none⟩) l.length sc) (secL l)))
  have HII := Lib.hid (fun (W : World) (hk : Kept (fun _ => False) w W) => HIN.out W hk)
  clear hS
  have hT0 : ThrTo l l 0 := ⟨rfl, fun j hj => by omega, fun j _ => rfl⟩
  go_wp2_with fail
  go_loopw [28] (fun iv wr => ∃ (i : Nat) (t : List In), iv = .int .i64 i ∧ i ≤ l.length ∧ ThrTo l t i ∧ InS wr (.slice (some ⟨w1.heap.size, 0, none⟩) l.length l.length) t ∧ Bls wr (.slice (some ⟨sg, 0, none⟩) l.length sc) (secL l) ∧ Kept (fun _ => False) w wr) (fun iv _ => l.length - (intOf iv).toNat)
  case atStart => exact ⟨0, l, rfl, by omega, hT0, hO4, HSS.out _ (Kept.refl _ _), hK4⟩
  case round =>
    clear hT0 hO4 hK4 HSS
    obtain ⟨i, t, rfl, hi, hT, hO, hS, hK⟩ := hrel
    by_cases hlt : i < l.length
    case neg =>
      obtain rfl : i = l.length := by omega
      have hnd : decide ((l.length : Int) < l.length) = false := decide_eq_false (by omega)
      have HT := Lib.hid hT
      clear hT hlt hi
      go_wp2_with fail
      go_ret2
      exact ⟨_, t, rfl, hO, fun h => absurd rfl h, fun _ => HT.out, hK, fun g hg => by have e : w1.heap.size = g := Option.some.inj hg; omega⟩
    case pos =>
    obtain ⟨x, hx⟩ : ∃ x, l[i]? = some x := ⟨_, List.getElem?_eq_getElem hlt⟩
    obtain ⟨b, hb⟩ := sec_get hlt
    have d0 := Bls.cell hS hb
    have hsg2 := Sl.lt hS _ rfl
    obtain ⟨lg', lo', hlgg, hlg, c0, c1, c2, c3, c4⟩ := (HII.out _ hK).at_ hx
    cases hlgg
    have hoff := HOFF.out i x hx
    have HX := Lib.hid hx
    have HB := Lib.hid hb
    have HT := Lib.hid hT
    clear hx hb hT HOFF HIN
    cases b
    case true =>
      go_wp2_with fail
      go_roundw
      case rel => exact ⟨i + 1, t, by go_num, by omega, HT.out.keep hlt x HX.out (.inl HB.out), hO.alloc _, Sl.alloc hS _, hK.alloc _⟩
      case measure => simp [intOf]; omega
    case false =>
    have hOJ := fun W => HOJ.out i x W HX.out
    have hkn := HKN.out i x HX.out HB.out
    rw [hkn] at hOJ
    have HOJ2 := Lib.hid hOJ
    have hBn := Blk.new wr 37 (inVals x)
    have hKn : Kept (fun _ => False) w (wr.alloc (.cells (inVals x) 37)) := hK.alloc _
    have hO1 := hO.alloc (.cells (inVals x) 37)
    have hS1 := hS.alloc (.cells (inVals x) 37)
    have hog := Sl.lt hO _ rfl
    have hsizes := Lib.hid (⟨Sl.lt hO _ rfl, Sl.lt hS _ rfl⟩ : w1.heap.size < wr.heap.size ∧ sg < wr.heap.size)
    clear hkn hOJ HKN HOJ
    cases hj : isJumpB x
    case false =>
      rw [hj] at HOJ2
      go_wp2_with fail
      refine (HOJ2.out _).mono ?_
      rintro e w5 ⟨rfl, hk5⟩
      go_wp2_with fail
      go_roundw
      case rel => exact ⟨i + 1, t, by go_num, by omega, HT.out.keep hlt x HX.out (.inr hj), Sl.kept hk5 hO1 (fun _ _ h => h), Sl.kept hk5 hS1 (fun _ _ h => h), hKn.trans hk5 (fun _ _ h => h)⟩
      case measure => simp [intOf]; omega
    case true =>
      rw [hj] at HOJ2
      obtain ⟨tgt, ht, htl, hts, hto⟩ := HJO.out i x HX.out HB.out hj
      have HTGT := Lib.hid ht
      have HFI2 := Lib.hid (fun W hI => HFI.out i tgt x W hI HX.out HB.out ht htl hts)
      have HFO2 := Lib.hid (fun f hf => HFO.out tgt f hf hts htl)
      have HTO2 := Lib.hid hto
      clear HFI HFO HJO hts hto
      go_wp2_with fail
      refine (HOJ2.out _).mono ?_
      rintro e w5 ⟨rfl, hk5⟩
      have hK5 := hKn.trans hk5 (fun _ _ h => h)
      have hO5 := Sl.kept hk5 hO1 (fun _ _ h => h)
      have hS5 := Sl.kept hk5 hS1 (fun _ _ h => h)
      have hb5 := hk5.blk (fun h => h) hBn
      have x3 := hb5.cell 3
      have hlt5 := hb5.lt
      have hsz5 := hk5.size
      clear hBn c0 c1 c2 c3 c4 d0 hO hS hK hKn hO1 hS1 hog hsg2
      go_wp2_with fail
      refine (HFI2.out _ (HII.out _ hK5)).mono ?_
      rintro e w6 ⟨f, rfl, hf, hk6⟩
      have hK6 := hK5.trans hk6 (fun _ _ h => h)
      have hO6 := Sl.kept hk6 hO5 (fun _ _ h => h)
      have hS6 := Sl.kept hk6 hS5 (fun _ _ h => h)
      obtain ⟨hfl, hfs, hfo⟩ := HFO2.out f hf
      have HF := Lib.hid (HT.out.jump hlt x HX.out HB.out hj HTGT.out hf hfl hfs (hfo.trans HTO2.out))
      have htlen := HT.out.len
      obtain ⟨y, hy⟩ : ∃ y, t[i]? = some y := ⟨_, List.getElem?_eq_getElem (by omega)⟩
      have hyx : y = x := by
        have := HT.out.rest i (Nat.le_refl _)
        rw [hy, HX.out] at this
        exact Option.some.inj this
      subst hyx
      have hyc : (t.map icells)[i]? = some (icells y) := by rw [List.getElem?_map, hy]; rfl
      have f3 := Sl.cell hO6 hyc (k := 3) (by omega)
      have f3 : w6.cell? ⟨w1.heap.size, i * 5 + 3, none⟩ = some (.int .i16 y.off) := f3
      have fr3 := Sl.frozen hO6 (i * 5 + 3)
      have hO7 := Sl.setCell hO6 hyc (k := 3) (by omega) (.int .i16 ((f : Int) - i - 1))
      have hO7' : InS (w6.setCell ⟨w1.heap.size, i * 5 + 3, none⟩ (.int .i16 ((f : Int) - i - 1))) (.slice (some ⟨w1.heap.size, 0, none⟩) l.length l.length) (t.set i { y with off := (f : Int) - i - 1 }) := by
        unfold InS
        rw [List.map_set]
        exact hO7
      have hkS : Kept (fun k => k = w1.heap.size) w6 (w6.setCell ⟨w1.heap.size, i * 5 + 3, none⟩ (.int .i16 ((f : Int) - i - 1))) := Kept.setCell (F := fun k => k = w1.heap.size) (Kept.refl _ w6) (fun _ => rfl) _
      have hS7 := Bls.fwd hkS hS6 (fun g hg e => hne (by rw [← e]; exact (Option.some.inj hg).symm))
      have hK7 : Kept (fun _ => False) w (w6.setCell ⟨w1.heap.size, i * 5 + 3, none⟩ (.int .i16 ((f : Int) - i - 1))) := hK6.trans hkS (fun k hk e => by omega)
      have hr1 : -32768 ≤ (f : Int) - i - 1 ∧ (f : Int) - i - 1 ≤ 32767 := ⟨by omega, by omega⟩
      clear hf hfs hfo hy hyc hO7 hO6 hO5 hS6 hS5 HFO2 HTO2 hkS HFI2
      go_wp2_with fail
      go_roundw
      case rel => exact ⟨i + 1, _, by go_num, by omega, HF.out, hO7', hS7, hK7⟩
      case measure => simp [intOf]; omega

end Go.Proofs.Ytdgniibolfahaaa
