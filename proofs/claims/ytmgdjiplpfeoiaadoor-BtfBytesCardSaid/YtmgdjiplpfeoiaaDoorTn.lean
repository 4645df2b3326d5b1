import Derived.Test.YtmgdjiplpfeoiaaDoorTv
import Derived.Laws.EntriesVeiled

set_option linter.unusedSimpArgs false
set_option linter.unusedVariables false
namespace Go.Proofs.YtmgdjiplpfeoiaaDoor
open Go.RowKit

theorem seen_all {l : List Ty} {id : Int} {L' : List (Int × Value)} (hs : Seen l id [] L') {x y : Int} (h : Reach l x y) : (∀ b ∈ succL l x, b ≠ id ∧ b ∈ L'.map (·.1)) → y ≠ id ∧ y ∈ L'.map (·.1) := by
  induction h with
  | one h => exact fun hx => hx _ h
  | more h _ ih => exact fun hx => ih fun b hb => hs _ (hx _ h).2 (by simp) b hb

set_option maxHeartbeats 2000000 in
set_option maxRecDepth 100000 in
theorem round_any (l : List Ty) (a : Option Addr) (c : Nat) (i : Nat) (w : World) (h : Tys w (.slice a l.length c) l) (hf : Fit l) (hcl : Closed l) (hi : i < l.length) :
    Calls Tryd.prog 34 #[.slice a l.length c, .int .i64 ((i : Int) + 1)] w fun e w' => ∃ r, e = .returned (.bool r) ∧ (r = true ↔ Reach l ((i : Int) + 1) ((i : Int) + 1)) ∧ Kept (fun _ => False) w w' := by
  have hmf : ∀ (fn : Fn) (first cap : Array Value) (w : World), (Instr.makeFunc fn first cap).run Tryd.prog w = .ok (.func fn first cap) w := fun _ _ _ _ => rfl
  have hmm := @run_makeMap Tryd.prog
  have hV : ∀ (c2 c3 : Array Value) (T2 T3 : TypeId), c2 = #[.map (some (w.heap.size + 1 + 1))] → c3 = #[.func (.func 56) #[] #[.pointer (some ⟨w.heap.size, 0, none⟩), .pointer (some ⟨w.heap.size + 1, 0, none⟩), .pointer (some ⟨w.heap.size + 1 + 1 + 1, 0, none⟩), .pointer (some ⟨w.heap.size + 1 + 1 + 1 + 1, 0, none⟩)]] → T2 = 90 → T3 = 68 →
      Vs (((((w.alloc (.cells #[.slice a l.length c] 22)).alloc (.cells #[.int .i64 ((i : Int) + 1)] 3)).alloc (.map #[] 0)).alloc (.cells c2 T2)).alloc (.cells c3 T3)) w.heap.size (w.heap.size + 1) (w.heap.size + 1 + 1 + 1) (w.heap.size + 1 + 1 + 1 + 1) (w.heap.size + 1 + 1) (.slice a l.length c) ((i : Int) + 1) [] := by
    rintro _ _ _ _ rfl rfl rfl rfl
    refine ⟨?_, ?_, ?_, ?_, ?_⟩
    · exact ((((Kept.refl (fun _ => False) _).alloc _).alloc _).alloc _).alloc _ |>.blk (fun h => h) (Blk.new w _ _)
    · have := ((((Kept.refl (fun _ => False) _).alloc (.map #[] 0)).alloc (.cells #[.map (some (w.heap.size + 1 + 1))] 90)).alloc (.cells #[.func (.func 56) #[] #[.pointer (some ⟨w.heap.size, 0, none⟩), .pointer (some ⟨w.heap.size + 1, 0, none⟩), .pointer (some ⟨w.heap.size + 1 + 1 + 1, 0, none⟩), .pointer (some ⟨w.heap.size + 1 + 1 + 1 + 1, 0, none⟩)]] 68)) |>.blk (fun h => h) (Blk.new (w.alloc (.cells #[.slice a l.length c] 22)) 3 #[.int .i64 ((i : Int) + 1)])
      simpa [alloc_size] using this
    · have := ((Kept.refl (fun _ => False) _).alloc (.cells #[.func (.func 56) #[] #[.pointer (some ⟨w.heap.size, 0, none⟩), .pointer (some ⟨w.heap.size + 1, 0, none⟩), .pointer (some ⟨w.heap.size + 1 + 1 + 1, 0, none⟩), .pointer (some ⟨w.heap.size + 1 + 1 + 1 + 1, 0, none⟩)]] 68)) |>.blk (fun h => h) (Blk.new (((w.alloc (.cells #[.slice a l.length c] 22)).alloc (.cells #[.int .i64 ((i : Int) + 1)] 3)).alloc (.map #[] 0)) 90 #[.map (some (w.heap.size + 1 + 1))])
      simpa [alloc_size] using this
    · have := Blk.new ((((w.alloc (.cells #[.slice a l.length c] 22)).alloc (.cells #[.int .i64 ((i : Int) + 1)] 3)).alloc (.map #[] 0)).alloc (.cells #[.map (some (w.heap.size + 1 + 1))] 90)) 68 #[.func (.func 56) #[] #[.pointer (some ⟨w.heap.size, 0, none⟩), .pointer (some ⟨w.heap.size + 1, 0, none⟩), .pointer (some ⟨w.heap.size + 1 + 1 + 1, 0, none⟩), .pointer (some ⟨w.heap.size + 1 + 1 + 1 + 1, 0, none⟩)]]
      simpa [alloc_size] using this
    · have := ((IMap.made ((w.alloc (.cells #[.slice a l.length c] 22)).alloc (.cells #[.int .i64 ((i : Int) + 1)] 3)) .i64).alloc (.cells #[.map (some (w.heap.size + 1 + 1))] 90)).alloc (.cells #[.func (.func 56) #[] #[.pointer (some ⟨w.heap.size, 0, none⟩), .pointer (some ⟨w.heap.size + 1, 0, none⟩), .pointer (some ⟨w.heap.size + 1 + 1 + 1, 0, none⟩), .pointer (some ⟨w.heap.size + 1 + 1 + 1 + 1, 0, none⟩)]] 68)
      simpa [alloc_size] using this
  have HV := Lib.hid hV
  clear hV
  go_enter Tryd.func34, Tryd.ntmps34
  go_wp2_with fail
  refine (visit_ih l a c hf hcl _ _ _ _ _ ((i : Int) + 1) w h (by omega : w.heap.size ≤ w.heap.size + 1 + 1) (l.length + 1) i [] _ (((((Kept.refl _ w).alloc _).alloc _).alloc _).alloc _ |>.alloc _) hi (HV.out _ _ _ _ rfl rfl rfl rfl) ⟨by simp, by simp, by simp⟩ (by omega)).mono ?_
  rintro e w2 ⟨r, L', rfl, _, hk2, _, _, htrue, hfalse⟩
  go_wp2_with fail
  go_ret
  refine ⟨r, rfl, ⟨htrue, fun hR => ?_⟩, ?_⟩
  · cases r with
    | true => rfl
    | false =>
      obtain ⟨h1, h2⟩ := hfalse rfl
      exact absurd rfl (seen_all h2 hR h1).1
  · exact Kept.trans (((((Kept.refl _ w).alloc _).alloc _).alloc _).alloc _ |>.alloc _) hk2 (fun k hk e => by have e : k = w.heap.size + 1 + 1 := e; omega)

end Go.Proofs.YtmgdjiplpfeoiaaDoor
