import Derived.Test.YtahabogjfcdjkaaGreatRg
set_option linter.unusedSimpArgs false
set_option linter.unusedVariables false
namespace Go.Proofs.YtahabogjfcdjkaaGreat
open Go.RowKit

/-! ### the document's memory (package barbicanref8): regions alone -/
def pcl (r : Rg) : List Value := [.pointer (some ⟨r.g, 0, none⟩)]
theorem pcl_one (r : Rg) : ∀ u ∈ pcl r, u.oneCell' = true := by simp [pcl, Value.oneCell']
/-- a part that is no frame: its first cells -/
def IsPart (w : World) (r : Rg) : Prop := ∃ rest : Array Value, Blk w r.g 112 (#[.bool (!r.dead), .bool false, .bool r.wr, .int .i64 r.hid, r.bv] ++ rest)
theorem IsPart.lt {w : World} {r : Rg} (h : IsPart w r) : r.g < w.heap.size := h.choose_spec.lt
theorem IsPart.kept {w w' : World} {r : Rg} {F : Nat → Prop} (h : IsPart w r) (hk : Kept F w w') (hF : ¬ F r.g) : IsPart w' r := ⟨h.choose, hk.blk hF h.choose_spec⟩
theorem IsPart.cells {w : World} {r : Rg} (h : IsPart w r) : w.cell? ⟨r.g, 0, none⟩ = some (.bool (!r.dead)) ∧ w.cell? ⟨r.g, 1, none⟩ = some (.bool false) ∧ w.cell? ⟨r.g, 2, none⟩ = some (.bool r.wr) ∧ w.cell? ⟨r.g, 3, none⟩ = some (.int .i64 r.hid) ∧ w.cell? ⟨r.g, 4, none⟩ = some r.bv := by
  obtain ⟨rest, hb⟩ := h
  have h5 : ∀ i, i < 5 → w.cell? ⟨r.g, i, none⟩ = (#[.bool (!r.dead), .bool false, .bool r.wr, .int .i64 r.hid, r.bv] : Array Value)[i]? := fun i hi => by
    rw [hb.cell i, Array.getElem?_append_left (by simpa using hi)]
  exact ⟨h5 0 (by omega), h5 1 (by omega), h5 2 (by omega), h5 3 (by omega), h5 4 (by omega)⟩
structure RMem (w : World) (p : Nat) (v : Value) (L : List Rg) : Prop where
  blk : Blk w p 56 #[v]
  own : Sl w 103 1 v (L.map pcl)
  rg : ∀ r ∈ L, IsPart w r ∧ Bs w r.bv r.b ∧ r.b.length ≤ 1000000
  nod : (blM p v L).Nodup
  small : L.length ≤ 100000

section
variable {w w' : World} {p : Nat} {v : Value} {L : List Rg}
theorem RMem.lt (h : RMem w p v L) {k : Nat} (hk : k ∈ blM p v L) : k < w.heap.size := by
  unfold blM at hk
  rcases List.mem_cons.1 hk with rfl | hk
  · exact h.blk.lt
  · rcases List.mem_append.1 hk with hk | hk
    · exact h.own.lt k (mem_ob.1 hk)
    · obtain ⟨r, hr, hk⟩ := List.mem_flatMap.1 hk
      rcases List.mem_cons.1 hk with rfl | hk
      · exact (h.rg r hr).1.lt
      · exact (h.rg r hr).2.1.lt k (mem_ob.1 hk)
theorem RMem.kept {F : Nat → Prop} (h : RMem w p v L) (hk : Kept F w w') (hF : ∀ k ∈ blM p v L, ¬ F k) : RMem w' p v L := by
  have hp : ∀ r ∈ L, r.g ∈ blM p v L ∧ ∀ k ∈ ob r.bv, k ∈ blM p v L := fun r hr =>
    ⟨List.mem_cons_of_mem _ (List.mem_append_right _ (List.mem_flatMap.2 ⟨r, hr, List.mem_cons_self ..⟩)), fun k hk => List.mem_cons_of_mem _ (List.mem_append_right _ (List.mem_flatMap.2 ⟨r, hr, List.mem_cons_of_mem _ hk⟩))⟩
  exact ⟨hk.blk (hF p (List.mem_cons_self ..)) h.blk, h.own.kept hk (fun g hg => hF g (List.mem_cons_of_mem _ (List.mem_append_left _ (mem_ob.2 hg)))),
    fun r hr => ⟨(h.rg r hr).1.kept hk (hF _ (hp r hr).1), (h.rg r hr).2.1.kept hk (fun g hg => hF g ((hp r hr).2 g (mem_ob.2 hg))), (h.rg r hr).2.2⟩, h.nod, h.small⟩
theorem RMem.quiet (h : RMem w p v L) (hk : Kept (fun _ => False) w w') : RMem w' p v L := h.kept hk (fun _ _ h => h)
theorem RMem.drew (h : RMem w p v L) : RMem w.drew p v L := h.quiet (Kept.drew (Kept.refl _ w))
theorem RMem.drewN (h : RMem w p v L) (n : Nat) : RMem (w.drewN n) p v L := h.quiet (Kept.drewN (Kept.refl _ w) n)
theorem RMem.alloc (h : RMem w p v L) (o : Obj) : RMem (w.alloc o) p v L := h.quiet (Kept.alloc (Kept.refl _ w) o)

/-- a region's bytes are written over, in their place -/
theorem RMem.setB (h : RMem w p v L) {i : Nat} {r : Rg} (hi : L[i]? = some r) {b' : List UInt8} (hk : Kept (fun k => r.bv.ownBlock = some k) w w') (hb : Bs w' r.bv b') (hl : b'.length ≤ 1000000) :
    RMem w' p v (L.set i { r with b := b' }) ∧ blM p v (L.set i { r with b := b' }) = blM p v L := by
  have hil : i < L.length := (List.getElem?_eq_some_iff.1 hi).1
  have hr : r ∈ L := List.mem_of_getElem? hi
  have hmap : (L.set i { r with b := b' }).map (fun r => (r.g, r.bv)) = L.map (fun r => (r.g, r.bv)) := by
    rw [List.map_set]
    refine List.ext_getElem? fun j => ?_
    rw [List.getElem?_set]
    by_cases e : i = j
    · subst e; rw [if_pos rfl, if_pos (by simpa using hil), List.getElem?_map, hi]; rfl
    · simp [e]
  have hfl : ∀ M : List Rg, (M.flatMap fun r => r.g :: ob r.bv) = (M.map fun r => (r.g, r.bv)).flatMap fun x => x.1 :: ob x.2 := fun M => by rw [List.flatMap_map]
  have hbl : blM p v (L.set i { r with b := b' }) = blM p v L := by
    unfold blM
    rw [hfl, hfl L, hmap]
  -- the block of the bytes is none of the others
  have hn := h.nod
  unfold blM at hn
  rw [List.nodup_cons, List.nodup_append] at hn
  obtain ⟨hn1, _, hn2, hn3⟩ := hn
  have hinf : ∀ k, r.bv.ownBlock = some k → k ∈ L.flatMap fun r => r.g :: ob r.bv := fun k hk => List.mem_flatMap.2 ⟨r, hr, List.mem_cons_of_mem _ (mem_ob.2 hk)⟩
  have hsplit : L = L.take i ++ r :: L.drop (i + 1) := by
    have := List.take_append_drop i L
    rw [List.drop_eq_getElem_cons hil] at this
    rw [← (List.getElem?_eq_some_iff.1 hi).2]
    exact this.symm
  have hother : ∀ (j : Nat) (s : Rg), j ≠ i → L[j]? = some s → ∀ k, r.bv.ownBlock = some k → k ≠ s.g ∧ s.bv.ownBlock ≠ some k := by
    intro j s hj hs k hk
    have hn4 := hn2
    rw [hsplit, List.flatMap_append, List.flatMap_cons] at hn4
    rw [List.nodup_append] at hn4
    obtain ⟨_, m2, m3⟩ := hn4
    rw [List.nodup_append] at m2
    obtain ⟨_, _, m4⟩ := m2
    have hjl : j < L.length := (List.getElem?_eq_some_iff.1 hs).1
    have hsk : ∀ y ∈ s.g :: ob s.bv, k ≠ y := by
      intro y hy
      rcases Nat.lt_or_gt_of_ne hj with hlt | hgt
      · have hm : s ∈ L.take i := List.mem_of_getElem? (i := j) (by rw [List.getElem?_take_of_lt hlt]; exact hs)
        have := m3 y (List.mem_flatMap.2 ⟨s, hm, hy⟩) k (List.mem_append_left _ (List.mem_cons_of_mem _ (mem_ob.2 hk)))
        exact fun e => this e.symm
      · have hm : s ∈ L.drop (i + 1) := List.mem_of_getElem? (i := j - (i + 1)) (by rw [List.getElem?_drop, show i + 1 + (j - (i + 1)) = j by omega]; exact hs)
        exact m4 k (List.mem_cons_of_mem _ (mem_ob.2 hk)) y (List.mem_flatMap.2 ⟨s, hm, hy⟩)
    exact ⟨hsk _ (List.mem_cons_self ..), fun e => hsk k (List.mem_cons_of_mem _ (mem_ob.2 e)) rfl⟩
  have hgb : ∀ k, r.bv.ownBlock = some k → k ≠ r.g := by
    intro k hk e
    have hn4 := hn2
    rw [hsplit, List.flatMap_append, List.flatMap_cons, List.nodup_append] at hn4
    have := (List.nodup_cons.1 (List.nodup_append.1 hn4.2.1).1).1
    exact this (by rw [← e]; exact mem_ob.2 hk)
  refine ⟨⟨hk.blk (fun e => hn1 (List.mem_append_right _ (hinf p e))) h.blk, ?_, fun s hs => ?_, by rw [hbl]; exact h.nod, by simpa using h.small⟩, hbl⟩
  · have e : (L.set i { r with b := b' }).map pcl = L.map pcl := by
      rw [List.map_set]
      refine List.ext_getElem? fun j => ?_
      rw [List.getElem?_set]
      by_cases e : i = j
      · subst e; rw [if_pos rfl, if_pos (by simpa using hil), List.getElem?_map, hi]; rfl
      · simp [e]
    rw [e]
    exact h.own.kept hk (fun g hg e => hn3 g (mem_ob.2 hg) g (hinf g e) rfl)
  · obtain ⟨j, hj, rfl⟩ := List.mem_iff_getElem.1 hs
    rw [List.getElem_set]
    split
    · exact ⟨(h.rg r hr).1.kept hk (fun e => hgb _ e rfl), hb, hl⟩
    · rename_i hne
      have hjl : j < L.length := by simpa using hj
      have hs' : L[j]? = some L[j] := List.getElem?_eq_getElem hjl
      have hm := h.rg L[j] (List.getElem_mem hjl)
      have ho := hother j L[j] (fun e => hne e.symm) hs'
      exact ⟨hm.1.kept hk (fun e => (ho _ e).1 rfl), hm.2.1.kept hk (fun g hg e => (ho g e).2 hg), hm.2.2⟩

/-- one region more -/
theorem RMem.add {v' : Value} {r : Rg} (h : RMem w p v L) (hk : Kept (fun k => k = p ∨ v.ownBlock = some k) w w') (hblk : Blk w' p 56 #[v']) (hown : Sl w' 103 1 v' ((L ++ [r]).map pcl))
    (hr : IsPart w' r ∧ Bs w' r.bv r.b ∧ r.b.length ≤ 1000000) (hv : ∀ g, v'.ownBlock = some g → v.ownBlock = some g ∨ (w.heap.size ≤ g ∧ g ≠ r.g ∧ r.bv.ownBlock ≠ some g)) (hg : w.heap.size ≤ r.g) (hbv : ∀ g, r.bv.ownBlock = some g → w.heap.size ≤ g ∧ g ≠ r.g) (hs : L.length < 100000) :
    RMem w' p v' (L ++ [r]) ∧ ∀ k ∈ blM p v' (L ++ [r]), k ∈ blM p v L ∨ w.heap.size ≤ k := by
  have hn := h.nod
  unfold blM at hn
  rw [List.nodup_cons, List.nodup_append] at hn
  obtain ⟨hn1, hn0, hn2, hn3⟩ := hn
  have hplt := h.blk.lt
  have hin : ∀ k ∈ L.flatMap fun r => r.g :: ob r.bv, k < w.heap.size := fun k hk => h.lt (List.mem_cons_of_mem _ (List.mem_append_right _ hk))
  have hob1 : (ob r.bv).Nodup := by unfold ob; cases r.bv.ownBlock <;> simp
  have hob2 : (ob v').Nodup := by unfold ob; cases v'.ownBlock <;> simp
  have hvp : ∀ g, v.ownBlock = some g → g < w.heap.size ∧ g ≠ p ∧ g ∉ L.flatMap fun r => r.g :: ob r.bv := fun g hg => ⟨h.own.lt g hg, fun e => hn1 (List.mem_append_left _ (by rw [← e]; exact mem_ob.2 hg)), fun hm => hn3 g (mem_ob.2 hg) g hm rfl⟩
  refine ⟨⟨hblk, hown, fun s hs' => ?_, ?_, by simp; omega⟩, fun k hk => ?_⟩
  · rcases List.mem_append.1 hs' with hs' | hs'
    · have hm := h.rg s hs'
      have hsg : s.g ∈ L.flatMap fun r => r.g :: ob r.bv := List.mem_flatMap.2 ⟨s, hs', List.mem_cons_self ..⟩
      have hsb : ∀ g, s.bv.ownBlock = some g → g ∈ L.flatMap fun r => r.g :: ob r.bv := fun g hg => List.mem_flatMap.2 ⟨s, hs', List.mem_cons_of_mem _ (mem_ob.2 hg)⟩
      refine ⟨hm.1.kept hk (fun e => ?_), hm.2.1.kept hk (fun g hg e => ?_), hm.2.2⟩
      · rcases e with e | e
        · exact hn1 (List.mem_append_right _ (by rw [← e]; exact hsg))
        · exact (hvp _ e).2.2 hsg
      · rcases e with e | e
        · exact hn1 (List.mem_append_right _ (by rw [← e]; exact hsb g hg))
        · exact (hvp _ e).2.2 (hsb g hg)
    · rw [List.mem_singleton.1 hs']; exact hr
  · unfold blM
    rw [List.flatMap_append, List.flatMap_cons, List.flatMap_nil, List.append_nil]
    rw [List.nodup_cons, List.nodup_append]
    refine ⟨fun hm => ?_, hob2, ?_, fun a ha b hb e => ?_⟩
    · rcases List.mem_append.1 hm with hm | hm
      · rcases hv p (mem_ob.1 hm) with e | e
        · exact (hvp p e).2.1 rfl
        · omega
      · rcases List.mem_append.1 hm with hm | hm
        · exact hn1 (List.mem_append_right _ hm)
        · rcases List.mem_cons.1 hm with hm | hm
          · omega
          · have := (hbv p (mem_ob.1 hm)).1; omega
    · rw [List.nodup_append]
      refine ⟨hn2, List.nodup_cons.2 ⟨fun hm => (hbv _ (mem_ob.1 hm)).2 rfl, hob1⟩, fun a ha b hb e => ?_⟩
      subst e
      have h1 := hin a ha
      rcases List.mem_cons.1 hb with hb | hb
      · omega
      · have := (hbv a (mem_ob.1 hb)).1; omega
    · subst e
      rcases hv a (mem_ob.1 ha) with e | ⟨e1, e2, e3⟩
      · obtain ⟨g1, g2, g3⟩ := hvp a e
        rcases List.mem_append.1 hb with hb | hb
        · exact g3 hb
        · rcases List.mem_cons.1 hb with hb | hb
          · omega
          · have := (hbv a (mem_ob.1 hb)).1; omega
      · rcases List.mem_append.1 hb with hb | hb
        · have := hin a hb; omega
        · rcases List.mem_cons.1 hb with hb | hb
          · exact e2 hb
          · exact e3 (mem_ob.1 hb)
  · unfold blM at hk
    rcases List.mem_cons.1 hk with rfl | hk
    · exact .inl (List.mem_cons_self ..)
    · rcases List.mem_append.1 hk with hk | hk
      · rcases hv k (mem_ob.1 hk) with e | e
        · exact .inl (List.mem_cons_of_mem _ (List.mem_append_left _ (mem_ob.2 e)))
        · exact .inr e.1
      · rw [List.flatMap_append, List.flatMap_cons, List.flatMap_nil, List.append_nil] at hk
        rcases List.mem_append.1 hk with hk | hk
        · exact .inl (List.mem_cons_of_mem _ (List.mem_append_right _ hk))
        · rcases List.mem_cons.1 hk with rfl | hk
          · exact .inr hg
          · exact .inr (hbv k (mem_ob.1 hk)).1
end

end Go.Proofs.YtahabogjfcdjkaaGreat
