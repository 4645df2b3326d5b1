import Derived.Test.YtahabogjfcdjkaaGreatSo
set_option linter.unusedSimpArgs false
set_option linter.unusedVariables false
namespace Go.Proofs.YtahabogjfcdjkaaGreat
open Go.RowKit

theorem infoBy : (Tryz.prog.info? 39).map (fun i => (i.zero, i.size, i.bytes)) = some (some (.slice none 0 0), 1, 24) := by kernel_rfl

theorem iterSeen_of {w : World} {r a c : Nat} {m : Option Nat} {s : Array Nat} (h : w.heap[r]? = some (.mapIter m a s c)) : w.iterSeen r = s := by
  unfold World.iterSeen
  rw [h]

theorem entry_key {es : Array MapEntry} {L : List (List UInt8 × Value)} (h : es.toList.map (fun e => (e.key, e.val)) = L.map (fun x => (sV x.1, x.2))) {e : MapEntry} (he : e ∈ es.toList) : ∃ y ∈ L, e.key = sV y.1 ∧ e.val = y.2 := by
  have : (e.key, e.val) ∈ es.toList.map (fun e => (e.key, e.val)) := List.mem_map.2 ⟨e, he, rfl⟩
  rw [h] at this
  obtain ⟨y, hy, hye⟩ := List.mem_map.1 this
  exact ⟨y, hy, (Prod.mk.inj hye).1.symm, (Prod.mk.inj hye).2.symm⟩

/-- the entries handed out, in the range's order -/
structure Col (es : Array MapEntry) (K : List MapEntry) (R : List (Value × List UInt8)) : Prop where
  nod : (K.map (·.born)).Nodup
  sub : ∀ e ∈ K, e ∈ es.toList
  row : R.map (fun y => sV y.2) = K.map (·.key)
theorem Col.push {es : Array MapEntry} {K : List MapEntry} {R : List (Value × List UInt8)} (h : Col es K R) {e : MapEntry} (he : e ∈ (leftOf es (K.map (·.born)).toArray).toList) {v : Value} {k : List UInt8} (hk : e.key = sV k) : Col es (K ++ [e]) (R ++ [(v, k)]) := by
  have hm := mem_left he
  refine ⟨?_, fun x hx => ?_, ?_⟩
  · rw [List.map_append, List.nodup_append]
    refine ⟨h.nod, by simp, fun a ha b hb hab => ?_⟩
    rw [List.map_cons, List.map_nil, List.mem_singleton] at hb
    subst hb hab
    have := hm.2
    simp at this
    obtain ⟨x, hx, hxe⟩ := List.mem_map.1 ha
    exact this x hx hxe
  · rcases List.mem_append.1 hx with hx | hx
    · exact h.sub x hx
    · rw [List.mem_singleton.1 hx]; exact hm.1
  · simp [h.row, hk]
theorem nodup_le {α : Type} : ∀ {l m : List α}, l.Nodup → (∀ x ∈ l, x ∈ m) → l.length ≤ m.length
  | [], _, _, _ => Nat.zero_le _
  | x :: l, m, h, hs => by
    obtain ⟨a, b, rfl⟩ := List.append_of_mem (hs x (List.mem_cons_self ..))
    have hn := List.nodup_cons.1 h
    have := nodup_le (l := l) (m := a ++ b) hn.2 fun y hy => by
      have := hs y (List.mem_cons_of_mem _ hy)
      rcases List.mem_append.1 this with h1 | h1
      · exact List.mem_append_left _ h1
      · rcases List.mem_cons.1 h1 with rfl | h1
        · exact absurd hy hn.1
        · exact List.mem_append_right _ h1
    simp at this ⊢
    omega
theorem Col.len {es : Array MapEntry} {clock : Nat} {K : List MapEntry} {R : List (Value × List UInt8)} (h : Col es K R) (hst : MapKept.Stamped es clock) : K.length ≤ es.toList.length :=
  nodup_le ((List.pairwise_map.1 h.nod).imp fun hne e => hne (congrArg _ e)) h.sub
theorem Col.all {es : Array MapEntry} {clock : Nat} {K : List MapEntry} {R : List (Value × List UInt8)} (h : Col es K R) (hst : MapKept.Stamped es clock) (h0 : (leftOf es (K.map (·.born)).toArray).size = 0) {L : List (List UInt8 × Value)} (hL : es.toList.map (fun e => (e.key, e.val)) = L.map (fun x => (sV x.1, x.2))) :
    (R.map (·.2)).Perm (L.map (·.1)) := by
  have hall := all_seen es _ h0
  have hp : K.Perm es.toList := by
    refine (List.perm_ext_iff_of_nodup ((List.pairwise_map.1 h.nod).imp fun hne e => hne (congrArg _ e)) ((List.pairwise_map.1 hst.2.1).imp fun hne e => hne (congrArg _ e))).2 fun e => ⟨h.sub e, fun he => ?_⟩
    have := hall e he
    simp at this
    obtain ⟨x, hx, hxe⟩ := this
    rw [← born_inj hst.2.1 (h.sub x hx) he hxe]
    exact hx
  have h1 : (R.map fun y => sV y.2).Perm (L.map fun x => sV x.1) := by
    rw [h.row]
    have := hp.map (·.key)
    refine this.trans ?_
    have e := congrArg (List.map (·.1)) hL
    simp only [List.map_map] at e
    rw [show (es.toList.map fun e => e.key) = (es.toList.map ((fun x => x.1) ∘ fun e : MapEntry => (e.key, e.val))) from rfl, e]
    exact List.Perm.refl _
  have h2 := h1.map (fun v => match v with | .string s => s.data.toList | _ => [])
  simpa [Function.comp_def, sV] using h2

set_option maxHeartbeats 4000000 in
set_option maxRecDepth 100000 in
theorem keys_any (x : Loc) (S : MS) (L : List Rg) (w : World) (h : Mp w x S L) (h3 : S.d.kind ≠ 3) :
    Calls Tryz.prog 36 #[.pointer (some ⟨x.q, 0, none⟩)] w fun e w' => ∃ (ov : Value) (R : List (Value × List UInt8)), e = .returned (.tuple #[ov, .int .i64 0]) ∧ Sl w' 39 1 ov (R.map kcell) ∧ (∀ y ∈ R, By w' y.1 y.2) ∧
      (R.map (·.2)).Perm (S.ent.map (·.1)) ∧ (R.map (·.2)).Pairwise (fun a b => 0 ≤ Lib.compareBytes b a) ∧ (∀ y ∈ R, ∀ g, y.1.ownBlock = some g → w.heap.size ≤ g) ∧ Kept (fun _ => False) w w' := by
  have hb0 := h.blk.cell
  simp only [MS.cells] at hb0
  have e3 : (S.d.kind == 3) = false := by simpa using h3
  obtain ⟨es, clock, hes, heq, hst⟩ := h.map
  have hrg := run_range_map (P := Tryz.prog) w 58 9 3 x.m es clock Tryz.underlying58 hes
  have hvals : S.vals.map (·.1) = S.ent.map (·.1) := by unfold MS.vals; rw [List.map_map]; rfl
  have hlt := h.map.lt
  obtain ⟨i0, hI0, hI1, hI2, hI3⟩ := info_parts infoBy
  go_enter Tryz.func36, Tryz.ntmps36
  go_wp2_with fail
  go_loopw [4] (fun ov wr => ∃ (K : List MapEntry) (R : List (Value × List UInt8)), wr.heap[w.heap.size]? = some (.mapIter (some x.m) clock (K.map (·.born)).toArray clock) ∧ Col es K R ∧ Sl wr 39 1 ov (R.map kcell) ∧ (∀ y ∈ R, By wr y.1 y.2) ∧
    (∀ y ∈ R, ∀ g, y.1.ownBlock = some g → w.heap.size < g ∧ ov.ownBlock ≠ some g) ∧ (∀ g, ov.ownBlock = some g → w.heap.size < g) ∧ Kept (fun _ => False) w wr) (fun _ wr => (leftOf es (wr.iterSeen w.heap.size)).size)
  case atStart => exact ⟨[], [], heap_alloc_new w _, ⟨List.nodup_nil, by simp, rfl⟩, Sl.nil _ _ _, by simp, by simp, by simp [Value.ownBlock], (Kept.refl _ w).alloc _⟩
  case round =>
    obtain ⟨K, R, hit, hcol, hS, hBy, hfar, hov, hK⟩ := hrel
    have hes' : wr.heap[x.m]? = some (.map es clock) := hK.heap (fun h => h) hes
    rcases run_next_it (P := Tryz.prog) hit hes' hst with ⟨h0, hnx⟩ | ⟨e, he, w1, hk1, hit1, hnx⟩
    · have hperm := hcol.all hst h0 heq
      rw [hvals] at hperm
      go_wp2_with fail
      have hlen : R.length < 1073741824 := by
        have := hperm.length_eq
        have hfew := h.few
        simp only [List.length_map] at this
        omega
      refine (sort_any R _ wr hS hBy (fun y hy g hg => (hfar y hy g hg).2) hlen).mono ?_
      rintro e w2 ⟨rfl, R', hp, hsorted, hS2, hk2⟩
      have hK2 := hK.trans hk2 (fun k hk e => absurd (hov k e) (by omega))
      go_wp2_with fail
      go_ret2
      exact ⟨_, R', rfl, hS2, fun y hy => (hBy y (hp.subset hy)).kept hk2 (fun g hg e => (hfar y (hp.subset hy) g hg).2 e), (hp.map _).trans hperm, hsorted, fun y hy g hg => Nat.le_of_lt (hfar y (hp.subset hy) g hg).1, hK2⟩
    · obtain ⟨y, _, hkey, _⟩ := entry_key heq (mem_left he).1
      have hes1 : w1.heap[x.m]? = some (.map es clock) := hk1.heap (fun e => by omega) hes'
      have hen := run_entry_it (P := Tryz.prog) hit1 hes1 hst (mem_left he).1
      have hcol1 := hcol.push he (v := .slice (some ⟨w1.heap.size, 0, none⟩) y.1.length 0) hkey
      have hmeas := left_shrinks es _ e he
      rw [hkey] at hnx hen
      have hrw : w.heap.size < wr.heap.size := (Array.getElem?_eq_some_iff.1 hit).1
      have hK1 := hK.trans hk1 (fun k hk e => by omega)
      have hr1 : w.heap.size < w1.heap.size := (Array.getElem?_eq_some_iff.1 hit1).1
      obtain ⟨c, w2, hcv, hB2, hk2, hz2⟩ := run_bytes_sV (P := Tryz.prog) w1 Tryz.underlying9 Tryz.underlying39 Tryz.underlying5 y.1
      have hS2 := (Sl.kept hk1 hS (fun g hg e => by have := hov g hg; omega)).kept hk2 (fun g hg e => e)
      have hBy2 : ∀ y ∈ R, By w2 y.1 y.2 := fun y hy => ((hBy y hy).kept hk1 (fun g hg e => by have := (hfar y hy g hg).1; omega)).kept hk2 (fun g hg e => e)
      have hit2 := hk2.heap (fun h => h) hit1
      have hK2 := hK1.trans hk2 (fun _ _ h => h)
      have hRl : (R.map kcell).length < 1073741824 := by
        have h1 := congrArg List.length hcol.row
        have h2 := congrArg List.length heq
        have h4 := hcol.len hst
        have hfew := h.few
        have h5 : S.vals.length = S.ent.length := by unfold MS.vals; simp
        simp only [List.length_map] at h1 h2 ⊢
        omega
      go_wp2_with (at_builtin; refine wpList_push (w := w2) rfl (.tmp 21) (.tmp 24) 87 rfl Tryz.underlying87 hI0 hI1 hI2 hI3 rfl (by omega) u4 (R.map kcell) [.slice (some ⟨w1.heap.size, 0, none⟩) y.1.length c] rfl rfl hS2 rfl (by simp [Value.oneCell']) hRl (by omega) ?_; intro g5 cap5 w5 hS5 hk5 hg5)
      have hz1 := hk1.size
      have hSlt : ∀ g, u4.ownBlock = some g → g < wr.heap.size := fun g hg => hS.lt g hg
      have hBlt : ∀ y ∈ R, ∀ g, y.1.ownBlock = some g → g < wr.heap.size := fun y hy g hg => (hBy y hy).lt g hg
      have hcol2 := hcol.push he (v := .slice (some ⟨w1.heap.size, 0, none⟩) y.1.length c) hkey
      have hit5 := hk5.heap (fun e => by have := hov _ e; omega) hit2
      refine ⟨⟨K ++ [e], R ++ [(.slice (some ⟨w1.heap.size, 0, none⟩) y.1.length c, y.1)], by rw [hit5]; simp, hcol2, ?_, fun z hz => ?_, fun z hz g hg => ?_, fun g hg => ?_, hK2.trans hk5 (fun k hk e => by have := hov k e; omega)⟩, ?_⟩
      · rw [List.map_append]
        rw [List.length_map] at hS5
        try rw [List.length_map]
        exact hS5
      · rcases List.mem_append.1 hz with hz | hz
        · exact (hBy2 z hz).kept hk5 (fun g hg e => (hfar z hz g hg).2 e)
        · rw [List.mem_singleton.1 hz]
          refine hB2.kept hk5 (fun g hg e => ?_)
          have h1 := hSlt g e
          simp only [Value.ownBlock, Option.some.injEq] at hg
          omega
      · have hne : g ≠ g5 ∧ w.heap.size < g := by
          rcases List.mem_append.1 hz with hz | hz
          · have h1 := hfar z hz g hg
            have h2 := hBlt z hz g hg
            refine ⟨fun e => ?_, h1.1⟩
            subst e
            rcases hg5 with h | h
            · exact h1.2 h
            · omega
          · rw [List.mem_singleton.1 hz] at hg
            simp only [Value.ownBlock, Option.some.injEq] at hg
            refine ⟨fun e => ?_, by omega⟩
            subst e
            rcases hg5 with h | h
            · have := hSlt _ h; omega
            · omega
        refine ⟨hne.2, fun e => hne.1 ?_⟩
        simp only [Value.ownBlock, Option.some.injEq] at e
        exact e.symm
      · simp only [Value.ownBlock, Option.some.injEq] at hg
        subst hg
        rcases hg5 with h | h
        · exact hov _ h
        · omega
      · rw [iterSeen_of hit, iterSeen_of hit5]
        exact hmeas

end Go.Proofs.YtahabogjfcdjkaaGreat
