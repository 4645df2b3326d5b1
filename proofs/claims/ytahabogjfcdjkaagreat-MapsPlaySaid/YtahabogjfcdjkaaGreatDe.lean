import Derived.Test.YtahabogjfcdjkaaGreatDd
import Derived.Test.YtahabogjfcdjkaaGreatKy
set_option linter.unusedSimpArgs false
set_option linter.unusedVariables false
namespace Go.Proofs.YtahabogjfcdjkaaGreat
open Go.RowKit

/-! ### the document's map: Delete, Keys, Key -/
theorem infoEn : (Tryz.prog.info? 70).map (fun i => (i.zero, i.size, i.bytes)) = some (some (.agg #[.string ⟨#[]⟩, .int .i64 0]), 2, 24) := by kernel_rfl
theorem naEnts : ∀ w, (isAgg 65).run Tryz.prog w = .ok false w := fun w => by kernel_rfl
theorem cutHeadG {T E : TypeId} {i0 : TypeInfo} (ht : Tryz.prog.underlying T = some (.slice E)) (hI0 : Tryz.prog.info? E = some i0) (g n cap i : Nat) (hi : i ≤ cap) (w : World) :
    (Instr.sliceAt T (.slice (some ⟨g, 0, none⟩) n cap) none (some (.int .i64 i)) (some (.int .i64 i))).run Tryz.prog w = .ok (.slice (some ⟨g, 0, none⟩) i i) w := by
  simp [Instr.sliceAt, Instr.slice, run_underlying ht, Instr.sliceBounds, run_sliceBound, sizeOf, typeInfo, hI0, hi, add_n]
theorem cutTailG {T E sz : TypeId} {i0 : TypeInfo} (ht : Tryz.prog.underlying T = some (.slice E)) (hI0 : Tryz.prog.info? E = some i0) (hI2 : i0.size = sz) (g n cap i : Nat) (hi : i ≤ n) :
    ∃ ad, (∀ w : World, (Instr.sliceAt T (.slice (some ⟨g, 0, none⟩) n cap) (some (.int .i64 i)) none none).run Tryz.prog w = .ok (.slice (some ad) (n - i) (cap - i)) w) ∧ (i < cap → ad = ⟨g, i * sz, none⟩) := by
  refine ⟨if cap = i then ⟨g, 0, none⟩ else ⟨g, i * sz, none⟩, fun w => ?_, fun h => if_neg (by omega)⟩
  simp [Instr.sliceAt, Instr.slice, run_underlying ht, Instr.sliceBounds, run_sliceBound, sizeOf, typeInfo, hI0, hI2, hi]
  split <;> simp [add_n]
theorem delS_at {α : Type} {k : List UInt8} : ∀ {l : List (List UInt8 × α)} {j : Nat} {y : List UInt8 × α}, l[j]? = some y → y.1 = k → (∀ i z, i < j → l[i]? = some z → z.1 ≠ k) → delS l k = l.take j ++ l.drop (j + 1)
  | [], _, _, h, _, _ => by cases h
  | (a, b) :: l, 0, y, h, e, _ => by
    simp only [List.getElem?_cons_zero, Option.some.injEq] at h
    subst h
    simp only [delS]
    rw [if_pos e]
    simp
  | (a, b) :: l, j + 1, y, h, e, hn => by
    simp only [delS]
    rw [if_neg (hn 0 (a, b) (by omega) rfl), delS_at (by simpa using h) e fun i z hi hz => hn (i + 1) z (by omega) (by simpa using hz)]
    simp
theorem delS_nd {α : Type} {k : List UInt8} : ∀ {l : List (List UInt8 × α)}, (l.map (·.1)).Nodup → ((delS l k).map (·.1)).Nodup
  | [], h => h
  | (a, b) :: l, h => by
    simp only [List.map_cons, List.nodup_cons] at h
    simp only [delS]
    split
    · exact h.2
    · simp only [List.map_cons, List.nodup_cons]
      refine ⟨fun hm => h.1 ?_, delS_nd h.2⟩
      obtain ⟨z, hz, e⟩ := List.mem_map.1 hm
      exact List.mem_map.2 ⟨z, delS_sub hz, e⟩
/-- other entries, in another place -/
theorem RMp.ents {w w' : World} {x : RLoc} {S : MS} {L : List Rg} (h : RMp w x S L) {lv' : Value} {E' : List (List UInt8 × Int)} (hk : Kept (fun k => k = x.q ∨ x.lv.ownBlock = some k) w w')
    (hblk : Blk w' x.q 67 (MS.rcells { S with ent := E' } { x with lv := lv' })) (he : Sg w' 70 2 lv' (E'.map ecell)) (ho : ∀ g, lv'.ownBlock = some g → x.lv.ownBlock = some g ∨ w.heap.size ≤ g)
    (hid : ∀ y ∈ E', ∃ (i : Nat) (r : Rg), y.2 = (i : Int) + 1 ∧ L[i]? = some r ∧ (r.b.length : Int) = S.d.value) (hnd : (E'.map (·.1)).Nodup) (hf : E'.length ≤ 100000) : RMp w' { x with lv := lv' } { S with ent := E' } L where
  blk := hblk
  ent := he
  prog := h.prog.kept hk (fun g hg e => by
    obtain ⟨d1, d2, d3⟩ := h.dp g hg
    rcases e with e | e
    · exact d2 e
    · exact d3 e)
  mem := h.mem.kept hk (fun k hk e => by
    rcases e with e | e
    · exact h.dq (by rw [← e]; exact hk)
    · exact (h.dl k e).1 hk)
  dq := h.dq
  dl := fun g hg => by
    rcases ho g hg with e | e
    · exact h.dl g e
    · exact ⟨fun hm => by have := h.mem.lt hm; omega, fun hm => by have := h.blk.lt; have hm : g = x.q := hm; omega⟩
  dp := fun g hg => by
    obtain ⟨d1, d2, d3⟩ := h.dp g hg
    refine ⟨d1, d2, fun e => ?_⟩
    rcases ho g e with e2 | e2
    · exact d3 e2
    · have := h.prog.lt g hg; omega
  ids := hid
  nd := hnd
  few := hf
  fewp := h.fewp
set_option maxHeartbeats 1000000 in
theorem rdelete_len (x : RLoc) (S : MS) (L : List Rg) (A : Option Addr) (n c : Nat) (w : World) (h : RMp w x S L) (ha : asksC S.d n ≠ 0) :
    Calls Tryz.prog 25 #[.pointer (some ⟨x.q, 0, none⟩), .slice A n c] w fun e w' => e = .returned (.tuple #[.int .i64 0, .int .i64 (asksC S.d n)]) ∧ w = w' := by
  have HA := Lib.hid (rasked_len x S L A n c w h)
  have hne : (asksC S.d n != 0) = true := by simpa using ha
  have hne2 : (asksC S.d n == 0) = false := by simpa using ha
  generalize asksC S.d n = c0 at *
  clear ha h
  go_enter Tryz.func25, Tryz.ntmps25
  go_wp2_with (go_at_call 55; refine HA.out.mono ?_; rintro e w1 ⟨rfl, rfl⟩)
  go_ret2
  exact ⟨rfl, rfl⟩
set_option maxHeartbeats 1000000 in
theorem rdelete_arr (x : RLoc) (S : MS) (L : List Rg) (A : Option Addr) (n c : Nat) (w : World) (h : RMp w x S L) (ha : asksC S.d n = 0) (h1 : S.d.kind = 1) :
    Calls Tryz.prog 25 #[.pointer (some ⟨x.q, 0, none⟩), .slice A n c] w fun e w' => e = .returned (.tuple #[.int .i64 0, .int .i64 95]) ∧ w = w' := by
  have hA := rasked_len x S L A n c w h
  rw [ha] at hA
  have HA := Lib.hid hA
  have hb := h.blk.cell
  simp only [MS.rcells] at hb
  rw [h1] at hb
  clear ha h hA h1
  go_enter Tryz.func25, Tryz.ntmps25
  go_wp2_with (go_at_call 55; refine HA.out.mono ?_; rintro e w1 ⟨rfl, rfl⟩)
  go_ret2
  exact ⟨rfl, rfl⟩
set_option maxHeartbeats 2000000 in
set_option maxRecDepth 100000 in
theorem rdelete_any (x : RLoc) (S : MS) (L : List Rg) (kv : Value) (k : List UInt8) (w : World) (h : RMp w x S L) (hk : By w kv k) (ha : asksC S.d k.length = 0) (h1 : S.d.kind ≠ 1) :
    Calls Tryz.prog 25 #[.pointer (some ⟨x.q, 0, none⟩), kv] w fun e w' => e = .returned (.tuple #[.int .i64 ((lookS S.ent k).getD 0), .int .i64 (if (lookS S.ent k).isSome = true then 0 else 92)]) ∧ ∃ lv',
      RMp w' { x with lv := lv' } { S with ent := delS S.ent k } L ∧ (∀ n, fpR { x with lv := lv' } L n → fpR x L n ∨ w.heap.size ≤ n) ∧ Kept (fun n => fpR x L n) w w' := by
  obtain ⟨A, c, rfl⟩ := hk.any
  have hA := rasked_len x S L A k.length c w h
  rw [ha] at hA
  have HA := Lib.hid hA
  have HAT := Lib.hid (rat_any x S L _ k w h hk)
  have HH := Lib.hid h
  have hb0 := h.blk.cell
  simp only [MS.rcells] at hb0
  have e1 : (S.d.kind == 1) = false := by simpa using h1
  have hfew := h.few
  obtain ⟨i0, hI0, hI1, hI2, hI3⟩ := info_parts infoEn
  obtain ⟨lk, hlk⟩ : ∃ lk, lookS S.ent k = lk := ⟨_, rfl⟩
  rw [hlk]
  have HLK := Lib.hid hlk
  clear hA ha h hk hlk h1
  go_enter Tryz.func25, Tryz.ntmps25
  go_wp2_with (go_at_call 55; refine HA.out.mono ?_; rintro e w1 ⟨rfl, rfl⟩)
  refine HAT.out.mono ?_
  rintro e w2 ⟨a, rfl, hF, hk2⟩
  have hM := HH.out.quiet hk2
  have hb := hM.blk.cell
  simp only [MS.rcells] at hb
  rcases hF with ⟨rfl, hn⟩ | ⟨j, y, rfl, hj, hyk, hs, hfirst⟩
  · obtain rfl : lk = none := HLK.out.symm.trans hn
    have HM := Lib.hid hM
    clear hM
    go_wp2_with fail
    go_ret2
    have hde : ∀ {l : List (List UInt8 × Int)}, lookS l k = none → delS l k = l := fun {l} => by
      induction l with
      | nil => exact fun _ => rfl
      | cons z r ih =>
        obtain ⟨za, zb⟩ := z
        intro hz
        simp only [lookS] at hz
        split at hz
        · cases hz
        · rename_i hza
          simp only [delS, if_neg hza, ih hz]
    refine ⟨rfl, x.lv, ?_, fun n hn => .inl hn, hk2.mono (fun _ _ e => e.elim)⟩
    rw [hde hn]
    exact HM.out
  · obtain rfl : lk = some y.2 := HLK.out.symm.trans hs
    have hjl := (List.getElem?_eq_some_iff.1 hj).1
    obtain ⟨g, cap, hv, hcap, hgl⟩ := Sg.some_ hM.ent (by rw [List.length_map]; omega)
    rw [List.length_map] at hv
    rw [List.length_map] at hcap
    obtain ⟨e0, e1'⟩ := hM.eCell hv hj
    have hjd : decide ((j : Int) < 0) = false := decide_eq_false (by omega)
    have he := hM.ent
    rw [hv] at hb he
    have hs1 := cutHeadG Tryz.underlying65 hI0 g S.ent.length cap j (by omega)
    obtain ⟨ad, hs2, had⟩ := cutTailG Tryz.underlying65 hI0 hI2 g S.ent.length cap (j + 1) (by omega)
    rw [show (((j + 1 : Nat)) : Int) = (j : Int) + 1 by omega] at hs2
    have HV := Lib.hid hv
    have HM := Lib.hid hM
    have HDE := Lib.hid (delS_at hj hyk hfirst)
    have HE := Lib.hid he
    have hqf := hM.blk.frozen 7
    have hql := hM.blk.lt
    clear hM hv e0 hs hyk hfirst he
    go_wp2_with fail
    refine wp_region_mix0 [.w, .w, .w, .w, .l, .w, .w, .w, .w, .w, .w, .l, .w, .w, .w, .t, .w, .w, .t] (by kernel_rfl) (by kernel_rfl) ?_
    repeat (first
      | (refine mix_w1 ?_; go_big_quiet_step (fail); refine wpQuiet_nil ?_)
      | (refine mix_l1 rfl ?_; go_big_quiet_step (fail); refine wpQuiet_nil ?_))
    refine mix_t fun Q' hQ' => ?_
    refine wpList_cutG (w := w2.drew) rfl (.tmp 45) (.tmp 52) 65 rfl Tryz.underlying65 hI0 hI1 hI2 hI3 rfl (by omega) g S.ent.length cap j (S.ent.map ecell) ad (cap - (j + 1)) rfl rfl (fun h => had (by omega)) (by have := Sg.kept (Kept.drew (Kept.refl (fun _ => False) w2)) HE.out (fun _ _ h => h); exact this) (by omega) (by rw [List.length_map]; omega) (by omega) ?_
    intro g6 cap6 w6 hS6 hk6 hg6
    refine hQ' _ _ ?_
    clear hQ' Q'
    simp only [Act.put, List.setIfInBounds_toArray, List.set_cons_succ, List.set_cons_zero]
    have hk26 : Kept (fun _ => False) w2 w6 := (Kept.drew (Kept.refl _ w2)).trans hk6 (fun _ _ h => h)
    have hb6 := hk26.blk id HM.out.blk
    have hb6c := hb6.cell
    simp only [MS.rcells] at hb6c
    have hb6f := hb6.frozen 7
    have hb6l := hb6.lt
    repeat (refine mix_w1 ?_; go_big_quiet_step (fail); refine wpQuiet_nil ?_)
    refine mix_t fun Q' hQ' => ?_
    go_wp2_with fail
    refine mix_done ?_
    have hb7 := hb6.set_ 7 (.slice (some ⟨g6, 0, none⟩) (S.ent.length - 1) cap6)
    have hk7 : Kept (fun k => k = x.q) w6 (w6.setCell ⟨x.q, 7, none⟩ (.slice (some ⟨g6, 0, none⟩) (S.ent.length - 1) cap6)) := Kept.setCell (F := fun k => k = x.q) (Kept.refl _ w6) (fun _ => rfl) _
    have hgq : g6 ≠ x.q := fun e => by
      rcases hg6 with h | h
      · exact (HM.out.dl g (by rw [HV.out]; rfl)).2 (by rw [← h, e])
      · have : w2.heap.size ≤ g6 := h
        omega
    have hS7 := Sg.kept hk7 hS6 (fun g' hg' e => hgq (by have e1 : g6 = g' := Option.some.inj hg'; have e : g' = x.q := e; omega))
    have hkk : Kept (fun k => k = x.q ∨ x.lv.ownBlock = some k) w2 (w6.setCell ⟨x.q, 7, none⟩ (.slice (some ⟨g6, 0, none⟩) (S.ent.length - 1) cap6)) := (hk26.mono (fun _ _ e => e.elim)).trans hk7 (fun _ _ e => .inl e)
    have hfin := HM.out.ents (lv' := .slice (some ⟨g6, 0, none⟩) (S.ent.length - 1) cap6) (E' := delS S.ent k) hkk (by exact hb7) (by rw [HDE.out, List.map_append, List.map_take, List.map_drop]; exact hS7) (fun g' hg' => by
      have e1 : g6 = g' := Option.some.inj hg'
      subst e1
      rcases hg6 with h | h
      · exact .inl (by rw [HV.out, h]; rfl)
      · exact .inr h) (fun z hz => HM.out.ids z (delS_sub hz)) (delS_nd HM.out.nd) (Nat.le_trans (delS_len ..) HM.out.few)
    have HFI := Lib.hid hfin
    have HKK := Lib.hid hkk
    have hs6 := hk2.size
    have HG6 := Lib.hid (show ∀ g', (Value.slice (some ⟨g6, 0, none⟩) (S.ent.length - 1) cap6).ownBlock = some g' → x.lv.ownBlock = some g' ∨ w.heap.size ≤ g' from fun g' hg' => by
      have e1 : g6 = g' := Option.some.inj hg'
      subst e1
      rcases hg6 with h | h
      · exact .inl (by rw [HV.out, h]; rfl)
      · have : w2.heap.size ≤ g6 := h
        exact .inr (by omega))
    clear hb7 hk7 hS7 hkk hfin hS6 hk6 hg6 hb6 hb6c hb6f hk26
    generalize w6.setCell ⟨x.q, 7, none⟩ (.slice (some ⟨g6, 0, none⟩) (S.ent.length - 1) cap6) = w7 at *
    go_wp2_with fail
    go_ret2
    refine ⟨rfl, .slice (some ⟨g6, 0, none⟩) (S.ent.length - 1) cap6, HFI.out, fun n hn => ?_, (hk2.mono (G := fun n => fpR x L n) (fun _ _ e => e.elim)).trans HKK.out (fun n hn e => ?_)⟩
    · rcases hn with hn | hn | hn | hn
      · exact .inl (.inl hn)
      · rcases HG6.out n hn with e | e
        · exact .inl (.inr (.inl e))
        · exact .inr e
      · exact .inl (.inr (.inr (.inl hn)))
      · exact .inl (.inr (.inr (.inr hn)))
    · rcases e with e | e
      · exact .inl e
      · exact .inr (.inl e)

end Go.Proofs.YtahabogjfcdjkaaGreat
