import Derived.Test.YtahabogjfcdjkaaGreatKey
set_option linter.unusedSimpArgs false
set_option linter.unusedVariables false
namespace Go.Proofs.YtahabogjfcdjkaaGreat
open Go.RowKit

theorem Mp.keys_nodup {w : World} {x : Loc} {S : MS} {L : List Rg} (h : Mp w x S L) : (S.ent.map (·.1)).Nodup := by
  obtain ⟨es, clock, _, heq, hst⟩ := h.map
  have h1 := congrArg (List.map (·.1)) heq
  simp only [List.map_map] at h1
  have h2 : (S.ent.map fun y => sV y.1).Nodup := by
    have := hst.2.2
    rw [show (es.toList.map (·.key)) = es.toList.map ((fun x => x.1) ∘ fun e : MapEntry => (e.key, e.val)) from rfl, h1] at this
    unfold MS.vals at this
    rw [List.map_map] at this
    exact this
  refine List.pairwise_map.2 ((List.pairwise_map.1 h2).imp fun hne e => hne (by rw [e]))

set_option maxHeartbeats 4000000 in
set_option maxRecDepth 100000 in
theorem key_any (x : Loc) (S : MS) (L : List Rg) (id : Int) (k : List UInt8) (w : World) (h : Mp w x S L) (hin : (k, id) ∈ S.ent) (hu : ∀ y ∈ S.ent, y.2 = id → y.1 = k) :
    Calls Tryz.prog 30 #[.pointer (some ⟨x.q, 0, none⟩), .int .i64 id] w fun e w' => ∃ ov, e = .returned (.tuple #[ov, .bool true]) ∧ By w' ov k ∧ Kept (fun _ => False) w w' := by
  have hb0 := h.blk.cell
  simp only [MS.cells] at hb0
  obtain ⟨es, clock, hes, heq, hst⟩ := h.map
  have hrg := run_range_map (P := Tryz.prog) w 58 9 3 x.m es clock Tryz.underlying58 hes
  have hlt := h.map.lt
  obtain ⟨e0, he0, hev0⟩ : ∃ e ∈ es.toList, e.val = .int .i64 id := by
    have : (sV k, Value.int .i64 id) ∈ es.toList.map (fun e => (e.key, e.val)) := by
      rw [heq]
      unfold MS.vals
      rw [List.map_map]
      exact List.mem_map.2 ⟨(k, id), hin, rfl⟩
    obtain ⟨e, he, hee⟩ := List.mem_map.1 this
    exact ⟨e, he, (Prod.mk.inj hee).2⟩
  go_enter Tryz.func30, Tryz.ntmps30
  go_wp2_with fail
  go_loopw [6] (fun _ wr => ∃ seen : Array Nat, wr.heap[w.heap.size]? = some (.mapIter (some x.m) clock seen clock) ∧ (∀ e ∈ es.toList, seen.contains e.born = true → e.val ≠ .int .i64 id) ∧ Kept (fun _ => False) w wr) (fun _ wr => (leftOf es (wr.iterSeen w.heap.size)).size)
  case atStart => exact ⟨#[], heap_alloc_new w _, by simp, (Kept.refl _ w).alloc _⟩
  case round =>
    obtain ⟨seen, hit, hno, hK⟩ := hrel
    have hes' : wr.heap[x.m]? = some (.map es clock) := hK.heap (fun h => h) hes
    rcases run_next_it (P := Tryz.prog) hit hes' hst with ⟨h0, hnx⟩ | ⟨e, he, w1, hk1, hit1, hnx⟩
    · exact absurd hev0 (hno e0 he0 (all_seen es seen h0 e0 he0))
    · have hm := mem_left he
      obtain ⟨y, hy, hkey, hval⟩ := entry_key heq hm.1
      unfold MS.vals at hy
      obtain ⟨z, hz, rfl⟩ := List.mem_map.1 hy
      simp only at hkey hval
      have hes1 : w1.heap[x.m]? = some (.map es clock) := hk1.heap (fun e => by omega) hes'
      have hen := run_entry_it (P := Tryz.prog) hit1 hes1 hst hm.1
      have hmeas := left_shrinks es _ e he
      rw [hkey, hval] at hnx hen
      have hK1 := hK.trans hk1 (fun k hk e => by omega)
      by_cases hid : z.2 = id
      · have hk := hu z hz hid
        have hid' : (z.2 == id) = true := by simpa using hid
        obtain ⟨c, w2, hcv, hB2, hk2, hz2⟩ := run_bytes_sV (P := Tryz.prog) w1 Tryz.underlying9 Tryz.underlying39 Tryz.underlying5 k
        go_wp2_with fail
        go_ret2
        exact ⟨_, rfl, hB2, hK1.trans hk2 (fun _ _ h => h)⟩
      · have hid' : (z.2 == id) = false := by simpa using hid
        go_wp2_with fail
        go_roundw
        case rel =>
          refine ⟨seen.push e.born, hit1, fun e' he' hc => ?_, hK1⟩
          rw [contains_push] at hc
          cases h1 : seen.contains e'.born with
          | true => exact hno e' he' h1
          | false =>
            rw [h1, Bool.false_or] at hc
            have := born_inj hst.2.1 he' hm.1 (beq_iff_eq.1 hc)
            subst this
            rw [hval]
            intro h
            exact hid (Value.int.inj h).2
        case measure =>
          rw [iterSeen_of hit, iterSeen_of hit1]
          exact hmeas

end Go.Proofs.YtahabogjfcdjkaaGreat
