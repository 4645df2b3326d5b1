import Derived.Test.YtmgdjiplpfeoiaaDoorTf
import Derived.Test.YtmgdjiplpfeoiaaDoorIMap
set_option linter.unusedSimpArgs false
set_option linter.unusedVariables false
namespace Go.Proofs.YtmgdjiplpfeoiaaDoor
open Go.RowKit

theorem lookI_look_agg {L : List (Int × Value)} (h : ∀ y ∈ L, y.2 = .agg #[]) (k : Int) : (lookI L k).getD (.agg #[]) = .agg #[] := by
  induction L with
  | nil => rfl
  | cons y r ih =>
    obtain ⟨a, b⟩ := y
    simp only [lookI]
    split
    · exact h (a, b) (List.mem_cons_self ..)
    · exact ih (fun y hy => h y (List.mem_cons_of_mem _ hy))
theorem lookI_mem {α : Type} {L : List (Int × α)} {k : Int} : (lookI L k).isSome = true ↔ k ∈ L.map (·.1) := by
  induction L with
  | nil => simp [lookI]
  | cons y r ih =>
    obtain ⟨a, b⟩ := y
    simp only [lookI, List.map_cons, List.mem_cons]
    split
    · rename_i e; simp [e]
    · rename_i e
      rw [ih]
      constructor
      · exact fun h => .inr h
      · rintro (h | h)
        · exact absurd h.symm e
        · exact h
theorem updI_new {α : Type} {L : List (Int × α)} {k : Int} {u : α} (h : lookI L k = none) : updI L k u = L ++ [(k, u)] := by
  induction L with
  | nil => rfl
  | cons y r ih =>
    obtain ⟨a, b⟩ := y
    simp only [lookI] at h
    split at h
    · cases h
    · rename_i e
      simp only [updI, if_neg e, ih h, List.cons_append]
/-- a set of numbers -/
structure IS (n : Nat) (L : List (Int × Value)) : Prop where
  agg : ∀ y ∈ L, y.2 = .agg #[]
  nd : (L.map (·.1)).Nodup
  inn : ∀ k ∈ L.map (·.1), 1 ≤ k ∧ k ≤ (n : Int)
theorem nodup_le {n : Nat} : ∀ {K : List Int}, K.Nodup → (∀ k ∈ K, 1 ≤ k ∧ k ≤ (n : Int)) → K.length ≤ n := by
  induction n with
  | zero =>
    intro K _ h
    cases K with
    | nil => simp
    | cons k r => have := h k (List.mem_cons_self ..); omega
  | succ n ih =>
    intro K hn h
    have h1 := ih (K := K.filter fun k => k != ((n : Int) + 1)) (hn.filter _) (fun k hk => by
      rw [List.mem_filter] at hk
      have := h k hk.1
      have h2 : k ≠ (n : Int) + 1 := by simpa using hk.2
      omega)
    have h2 : K.length ≤ (K.filter fun k => k != ((n : Int) + 1)).length + 1 := by
      clear ih h1 h
      induction K with
      | nil => simp
      | cons k r ih =>
        have hn' := List.nodup_cons.1 hn
        by_cases e : k = (n : Int) + 1
        · subst e
          rw [List.filter_cons_of_neg (by simp)]
          have : (r.filter fun k => k != ((n : Int) + 1)) = r := by
            rw [List.filter_eq_self]
            intro a ha
            have : a ≠ (n : Int) + 1 := fun e => hn'.1 (e ▸ ha)
            simpa using this
          rw [this]
          simp
        · rw [List.filter_cons_of_pos (by simpa using e)]
          have := ih hn'.2
          simp
          omega
    omega
theorem IS.le {n : Nat} {L : List (Int × Value)} (h : IS n L) : L.length ≤ n := by
  have := nodup_le h.nd h.inn
  simpa using this
theorem IS.push {n : Nat} {L : List (Int × Value)} (h : IS n L) {k : Int} (hk : lookI L k = none) (h1 : 1 ≤ k) (h2 : k ≤ (n : Int)) : IS n (L ++ [(k, .agg #[])]) := by
  have hm : k ∉ L.map (·.1) := fun e => by have := lookI_mem.2 e; rw [hk] at this; cases this
  refine ⟨fun y hy => ?_, ?_, fun x hx => ?_⟩
  · rcases List.mem_append.1 hy with hy | hy
    · exact h.agg y hy
    · rw [List.mem_singleton.1 hy]
  · rw [List.map_append, List.nodup_append]
    refine ⟨h.nd, by simp, fun a ha b hb hab => hm ?_⟩
    rw [List.map_cons, List.map_nil, List.mem_singleton] at hb
    simp only at hb
    rw [hb] at hab
    rw [← hab]
    exact ha
  · rw [List.map_append] at hx
    rcases List.mem_append.1 hx with hx | hx
    · exact h.inn x hx
    · rw [List.map_cons, List.map_nil, List.mem_singleton] at hx
      subst hx
      exact ⟨h1, h2⟩

/-- what 'visit' sees -/
structure Vs (w : World) (bl bi bm bv m : Nat) (sv : Value) (id : Int) (L : List (Int × Value)) : Prop where
  cl : Blk w bl 22 #[sv]
  ci : Blk w bi 3 #[.int .i64 id]
  cm : Blk w bm 90 #[.map (some m)]
  cv : Blk w bv 68 #[.func (.func 56) #[] #[.pointer (some ⟨bl, 0, none⟩), .pointer (some ⟨bi, 0, none⟩), .pointer (some ⟨bm, 0, none⟩), .pointer (some ⟨bv, 0, none⟩)]]
  map : IMap w .i64 m L
theorem Vs.quiet {w w' : World} {bl bi bm bv m : Nat} {sv : Value} {id : Int} {L : List (Int × Value)} (h : Vs w bl bi bm bv m sv id L) (hk : Kept (fun _ => False) w w') : Vs w' bl bi bm bv m sv id L :=
  ⟨hk.blk (fun h => h) h.cl, hk.blk (fun h => h) h.ci, hk.blk (fun h => h) h.cm, hk.blk (fun h => h) h.cv, h.map.kept hk (fun h => h)⟩
theorem Vs.set {w w' : World} {bl bi bm bv m : Nat} {sv : Value} {id : Int} {L L' : List (Int × Value)} (h : Vs w bl bi bm bv m sv id L) (hk : Kept (fun k => k = m) w w') (hm : IMap w' .i64 m L') : Vs w' bl bi bm bv m sv id L' :=
  ⟨hk.blk (fun e => h.map.ne_blk h.cl e.symm) h.cl, hk.blk (fun e => h.map.ne_blk h.ci e.symm) h.ci, hk.blk (fun e => h.map.ne_blk h.cm e.symm) h.cm, hk.blk (fun e => h.map.ne_blk h.cv e.symm) h.cv, hm⟩

/-- what a visit without a find leaves: whatever is held is seen -/
def Seen (l : List Ty) (id : Int) (L L' : List (Int × Value)) : Prop := ∀ u, u ∈ L'.map (·.1) → u ∉ L.map (·.1) → ∀ b ∈ succL l u, b ≠ id ∧ b ∈ L'.map (·.1)
def Sub (L L' : List (Int × Value)) : Prop := (∀ u, u ∈ L.map (·.1) → u ∈ L'.map (·.1)) ∧ L.length ≤ L'.length
theorem Sub.refl (L : List (Int × Value)) : Sub L L := ⟨fun _ h => h, Nat.le_refl _⟩
theorem Sub.trans {A B C : List (Int × Value)} (h : Sub A B) (h2 : Sub B C) : Sub A C := ⟨fun u hu => h2.1 u (h.1 u hu), Nat.le_trans h.2 h2.2⟩

set_option maxHeartbeats 4000000 in
set_option maxRecDepth 100000 in
theorem visit_ih (l : List Ty) (a : Option Addr) (c : Nat) (hf : Fit l) (hcl : Closed l) (bl bi bm bv m : Nat) (id : Int) (w0 : World) (h0 : Tys w0 (.slice a l.length c) l) (hm0 : w0.heap.size ≤ m) : ∀ (f : Nat) (i : Nat) (L : List (Int × Value)) (w : World), Kept (fun _ => False) w0 w → i < l.length → Vs w bl bi bm bv m (.slice a l.length c) id L → IS l.length L → l.length - L.length < f →
    Calls Tryd.prog 56 #[.int .i64 ((i : Int) + 1), .pointer (some ⟨bl, 0, none⟩), .pointer (some ⟨bi, 0, none⟩), .pointer (some ⟨bm, 0, none⟩), .pointer (some ⟨bv, 0, none⟩)] w fun e w' => ∃ r L', e = .returned (.bool r) ∧ Vs w' bl bi bm bv m (.slice a l.length c) id L' ∧ Kept (fun k => k = m) w w' ∧ IS l.length L' ∧ Sub L L' ∧
      (r = true → Reach l ((i : Int) + 1) id) ∧ (r = false → (∀ b ∈ succL l ((i : Int) + 1), b ≠ id ∧ b ∈ L'.map (·.1)) ∧ Seen l id L L')
  | 0, _, _, _, _, _, _, _, h1 => absurd h1 (Nat.not_lt_zero _)
  | f + 1, i, L, w, hk0, hi, hV, hIS, hr => by
    have h := h0.kept hk0
    have h256 := hf.len
    obtain ⟨t, ht⟩ : ∃ t, l[i]? = some t := ⟨_, List.getElem?_eq_getElem hi⟩
    have htm := List.mem_of_getElem? ht
    obtain ⟨g, off, mv, rfl, hgl, hm, c0, c1, c2, c3, c4, c5, c6⟩ := h.at_ ht
    obtain ⟨ma, mc, rfl⟩ := hm.any
    have hsucc : succL l ((i : Int) + 1) = holdsL t := by unfold succL; rw [get_tyAt ht]
    have vl := hV.cl.cell 0
    have hn64 : (holdsL t).length ≤ 64 := by
      have := hf.mem t htm
      unfold holdsL
      split
      · simp
      · split <;> simp <;> omega
    have IH := Lib.hid (fun i' L' w' => visit_ih l (some ⟨g, off, none⟩) c hf hcl bl bi bm bv m id w0 h0 hm0 f i' L' w')
    go_enter Tryd.func56, Tryd.ntmps56
    go_wp2_with fail
    refine (holds_any t ma mc _ hm (hf.mem t htm)).mono ?_
    rintro e w2 ⟨ov, rfl, hS, hown, hk2⟩
    obtain ⟨oA, oC, hov⟩ := hS.any
    rw [List.length_map] at hov
    subst hov
    have hV2 := hV.quiet hk2
    go_wp2_with fail
    go_loopw [18] (fun iv wr => ∃ (j : Nat) (Lc : List (Int × Value)), iv = .int .i64 j ∧ j ≤ (holdsL t).length ∧ Vs wr bl bi bm bv m (.slice (some ⟨g, off, none⟩) l.length c) id Lc ∧ Kept (fun k => k = m) w2 wr ∧ IS l.length Lc ∧ Sub L Lc ∧
      (∀ b ∈ (holdsL t).take j, b ≠ id ∧ b ∈ Lc.map (·.1)) ∧ Seen l id L Lc) (fun iv _ => (holdsL t).length - (intOf iv).toNat)
    case atStart => exact ⟨0, L, rfl, Nat.zero_le _, hV2, Kept.refl _ _, hIS, Sub.refl _, by simp, fun u h1 h2 => absurd h1 h2⟩
    case round =>
      obtain ⟨j, Lc, rfl, hj, hVc, hkc, hISc, hSub, htake, hseen⟩ := hrel
      have hkw : Kept (fun k => k = m) w wr := (hk2.mono (fun _ _ e => e.elim)).trans hkc (fun _ _ e => e)
      by_cases hlt : j < (holdsL t).length
      case neg =>
        obtain rfl : j = (holdsL t).length := by omega
        rw [List.take_length] at htake
        go_wp2_with fail
        go_ret
        exact ⟨false, Lc, rfl, hVc, hkw, hISc, hSub, (fun h => by cases h), fun _ => ⟨by rw [hsucc]; exact htake, hseen⟩⟩
      case pos =>
        obtain ⟨b, hb⟩ : ∃ b, (holdsL t)[j]? = some b := ⟨_, List.getElem?_eq_getElem hlt⟩
        have hbm := List.mem_of_getElem? hb
        have hbs : b ∈ succL l ((i : Int) + 1) := by rw [hsucc]; exact hbm
        obtain ⟨b1, b2⟩ := hcl _ _ hbs
        obtain ⟨gk, cap', hkv, hkcap, hgk⟩ := hS.some_ (by simp; omega)
        obtain ⟨rfl, -, rfl⟩ := Value.slice.inj hkv
        clear hkv
        have hgm : gk ≠ m := fun e => by
          have h1 := hown gk rfl
          have h2 := hV.map.lt
          omega
        have hcb : wr.cell? ⟨gk, j, none⟩ = some (.int .i64 b) := by
          rw [hkc.cell (p := ⟨gk, j, none⟩) hgk hgm]
          have := hS.cell (i := j) (c := icell' b) (by simp [hb]) (k := 0) (by omega)
          simpa [icell'] using this
        have vi := hVc.ci.cell 0
        have vm := hVc.cm.cell 0
        have vv := hVc.cv.cell 0
        have li := hVc.ci.lt
        have lm := hVc.cm.lt
        have lv := hVc.cv.lt
        have htk : (holdsL t).take (j + 1) = (holdsL t).take j ++ [b] := by rw [List.take_add_one, hb]; rfl
        by_cases hbi : b = id
        · have e1 : (b == id) = true := by simpa using hbi
          have hR : Reach l ((i : Int) + 1) id := .one (by rw [← hbi]; exact hbs)
          clear hbi
          go_wp2_with fail
          go_ret
          exact ⟨true, Lc, rfl, hVc, hkw, hISc, hSub, fun _ => hR, (fun h => by cases h)⟩
        have e1 : (b == id) = false := by simpa using hbi
        have hlk : ∀ W, IMap W .i64 m Lc → (Instr.lookup 90 (.map (some m)) (.int .i64 b) true).run Tryd.prog W = .ok (.tuple #[.agg #[], .bool (lookI Lc b).isSome]) W := fun W h => by
          have := h.look2 (P := Tryd.prog) Tryd.underlying90 Tryd.underlying3 zeroEmpty b
          rw [lookI_look_agg hISc.agg] at this
          exact this
        have hlk1 := hlk wr hVc.map
        cases hlc : lookI Lc b with
        | some u =>
          have hbin : b ∈ Lc.map (·.1) := lookI_mem.1 (by rw [hlc]; rfl)
          rw [hlc] at hlk1
          simp only [Option.isSome_some] at hlk1
          clear hlk
          go_wp2_with fail
          exact ⟨⟨j + 1, Lc, by go_num, by omega, hVc.quiet ((Kept.refl _ wr).alloc _), hkc.alloc _, hISc, hSub, fun x hx => by
            rw [htk] at hx
            rcases List.mem_append.1 hx with hx | hx
            · exact htake x hx
            · rw [List.mem_singleton.1 hx]; exact ⟨hbi, hbin⟩, hseen⟩, by simp [intOf]; omega⟩
        | none =>
          rw [hlc] at hlk1
          simp only [Option.isSome_none] at hlk1
          clear hlk
          have hVA := hVc.quiet ((Kept.refl (fun _ => False) wr).alloc (.cells #[] 92))
          have hupd := updI_new (u := Value.agg #[]) hlc
          have hIS1 := hISc.push hlc b1 b2
          obtain ⟨k, hk⟩ : ∃ k : Nat, b = (k : Int) + 1 := ⟨(b - 1).toNat, by omega⟩
          have HK := Lib.hid hk
          clear hk
          have HU := Lib.hid hupd
          clear hupd
          go_wp2_with (refine wpList_updI rfl (.tmp 32) (.tmp 33) (.tmp 34) 90 rfl Tryd.underlying90 Tryd.underlying3 hVA.map b (.agg #[]) rfl rfl rfl ?_; intro w6 h6 hk6; have hV6 := hVA.set hk6 h6; have vv6 := hV6.cv.cell 0)
          rw [HU.out] at h6 hV6
          have hkw6 : Kept (fun k => k = m) w2 w6 := (hkc.alloc _).trans hk6 (fun _ _ e => e)
          have hk06 : Kept (fun _ => False) w0 w6 := (hk0.trans hk2 (fun _ _ e => e)).trans hkw6 (fun k hk e => by have e : k = m := e; omega)
          have hbL : b ∈ (Lc ++ [(b, Value.agg #[])]).map (·.1) := by simp
          have hsub1 : Sub Lc (Lc ++ [(b, Value.agg #[])]) := ⟨fun u hu => by rw [List.map_append]; exact List.mem_append_left _ hu, by simp⟩
          have hcall := IH.out k (Lc ++ [(b, Value.agg #[])]) w6 hk06 (by have := HK.out; omega) hV6 hIS1 (by have := hSub.2; have := hIS1.le; simp at this ⊢; omega)
          rw [← HK.out] at hcall
          refine hcall.mono ?_
          rintro e w8 ⟨r, L2, rfl, hV8, hk8, hIS8, hSub8, htrue, hfalse⟩
          have hkw8 : Kept (fun k => k = m) w2 w8 := hkw6.trans hk8 (fun _ _ e => e)
          have hSubL := (hSub.trans hsub1).trans hSub8
          cases r with
          | true =>
            have hR : Reach l ((i : Int) + 1) id := .more hbs (htrue rfl)
            go_wp2_with fail
            go_ret
            exact ⟨true, L2, rfl, hV8, (hk2.mono (fun _ _ e => e.elim)).trans hkw8 (fun _ _ e => e), hIS8, hSubL, fun _ => hR, (fun h => by cases h)⟩
          | false =>
            obtain ⟨hf1, hf2⟩ := hfalse rfl
            go_wp2_with fail
            refine ⟨⟨j + 1, L2, by go_num, by omega, hV8, hkw8, hIS8, hSubL, fun x hx => ?_, fun u hu1 hu2 x hx => ?_⟩, by simp [intOf]; omega⟩
            · rw [htk] at hx
              rcases List.mem_append.1 hx with hx | hx
              · exact ⟨(htake x hx).1, hSub8.1 _ (hsub1.1 _ (htake x hx).2)⟩
              · rw [List.mem_singleton.1 hx]
                exact ⟨hbi, hSub8.1 _ hbL⟩
            · by_cases h1 : u ∈ Lc.map (·.1)
              · have := hseen u h1 hu2 x hx
                exact ⟨this.1, hSub8.1 _ (hsub1.1 _ this.2)⟩
              · by_cases h2 : u = b
                · subst h2
                  exact hf1 x hx
                · refine hf2 u hu1 (fun h3 => ?_) x hx
                  rw [List.map_append] at h3
                  rcases List.mem_append.1 h3 with h3 | h3
                  · exact h1 h3
                  · exact h2 (by simpa using h3)

end Go.Proofs.YtmgdjiplpfeoiaaDoor
