import Derived.Test.YtopdoanfpjaehaaMem
import Derived.Laws.CopyOwn
set_option linter.unusedSimpArgs false
set_option linter.unusedVariables false
namespace Go.Proofs.Ytopdoanfpjaehaa
open Go.RowKit

/-! ### helpers -/
abbrev prV (nm : ByteArray) (a0 a1 a2 a3 a4 ret maps : Int) (ac re : Bool) : Array Value := #[.string nm, .int .i64 a0, .int .i64 a1, .int .i64 a2, .int .i64 a3, .int .i64 a4, .int .i64 ret, .int .i64 maps, .bool ac, .bool re]
theorem infoP5 : (Try.prog.info? 3).map (·.size) = some 1 := by kernel_rfl
theorem setRow_alloc (w1 : World) (cs nr : Array Value) (t : TypeId) : (w1.alloc (.cells cs t)).setRow w1.heap.size nr = w1.alloc (.cells nr t) := by
  have h : ((w1.heap.push (.cells cs t)).modify w1.heap.size fun
      | .cells _ elem frozen => .cells nr elem frozen
      | o => o) = w1.heap.push (.cells nr t) := by
    apply Array.ext_getElem?
    intro i
    rw [Array.getElem?_modify]
    by_cases hi : w1.heap.size = i
    · subst hi
      simp
    · rw [if_neg hi, Array.getElem?_push, Array.getElem?_push, if_neg (by omega), if_neg (by omega)]
  show { w1 with heap := _ } = { w1 with heap := _ }
  exact congrArg (fun h => { w1 with heap := h }) h
theorem addZ (G j : Nat) : (⟨G, 0, none⟩ : Addr).add j = ⟨G, j, none⟩ := by
  unfold Addr.add
  split
  · rename_i h; rw [h]
  · simp
section
variable {P : Program} {w : World} {ops : Array Oper} {rest : List Oper} {o : Oper} {a : Act} {Q : Exit → Act → World → Prop}
/-- 'copy(d, s)' into the block that was made last -/
theorem wpList_copyLast (hgd : o.guard = none) (d s : Operand) (dT sT : TypeId)
    (ho : o.op = .call { callee := .builtin .copy, args := #[d, s], argTypes := #[dT, sT] }) (elem : TypeId) (hu : P.underlying dT = some (.slice elem)) (hsz : (P.info? elem).map (·.size) = some 1)
    (w1 : World) (g : Nat) (hg : g = w1.heap.size) (off dLen dCap : Nat) (ad : Addr) (sLen sCap : Nat) (hd : a.eval d = .slice (some ⟨g, off, none⟩) dLen dCap) (hs : a.eval s = .slice (some ad) sLen sCap)
    (cur : Array Value) (t : TypeId) (cs : List Value) (hn : cs.length = Nat.min sLen dLen) (hw : w = w1.alloc (.cells cur t))
    (hsrc : ∀ j v, cs[j]? = some v → w.cell? (ad.add j) = some v) (hfit : off + cs.length ≤ cur.size) (h1 : ∀ v ∈ cs, v.oneCell' = true)
    (nr : Array Value) (hnr : (cur.toList.take off ++ (cs ++ cur.toList.drop (off + cs.length))).toArray = nr)
    (h : wpList P ops Q rest (a.put o.dst (goInt cs.length)) (w1.alloc (.cells nr t))) : wpList P ops Q (o :: rest) a w := by
  subst hw
  subst hg
  refine wpList_copy_own hgd d s dT sT ho elem hu hsz w1.heap.size off dLen dCap ad sLen sCap hd hs cur t (heap_alloc_new w1 _) cs hn hsrc hfit h1 ?_
  rw [hnr, setRow_alloc]
  exact h
end
set_option maxHeartbeats 2000000 in
theorem pof0 (nm : ByteArray) (ret maps : Int) (w : World) : Calls Try.prog 93 #[.string nm, .int .i64 ret, .int .i64 maps, .slice none 0 0] w fun e w' => e = .returned (.agg (prV nm 0 0 0 0 0 ret maps false false)) ∧ Kept (fun _ => False) w w' := by
  go_enter Try.func93, Try.ntmps93
  go_wp2_with (refine wpList_copy_nothing rfl (.tmp 15) (.tmp 16) 32 32 rfl 3 Try.underlying32 infoP5 _ _ 5 5 0 0 rfl rfl rfl ?_)
  refine bodyPost_ret (results_cell_row rfl _ _ w.heap.size _ (prV nm 0 0 0 0 0 ret maps false false) (0, 0) _ rfl ((Blk.new w _ _).alloc _) Try.underlying63 rfl (by kernel_rfl)) rfl ?_
  exact ⟨rfl, ((Kept.refl _ w).alloc _).alloc _⟩
set_option maxHeartbeats 2000000 in
theorem pof1 (nm : ByteArray) (ret maps a : Int) (G : Nat) (w : World) (hlt : G < w.heap.size) (h0 : w.cell? ⟨G, 0, none⟩ = some (.int .i64 a)) : Calls Try.prog 93 #[.string nm, .int .i64 ret, .int .i64 maps, .slice (some ⟨G, 0, none⟩) 1 1] w fun e w' => e = .returned (.agg (prV nm a 0 0 0 0 ret maps false false)) ∧ Kept (fun _ => False) w w' := by
  have hsrc : Hid (∀ (w1 : World), Kept (fun _ => False) w w1 → ∀ (j : Nat) (v : Value), ([.int .i64 a] : List Value)[j]? = some v → w1.cell? ((⟨G, 0, none⟩ : Addr).add j) = some v) := Lib.hid (fun w1 hk j v hj => by
    have hc : ∀ k, w1.cell? ⟨G, k, none⟩ = w.cell? ⟨G, k, none⟩ := fun k => hk.cell (p := ⟨G, k, none⟩) hlt (fun h => h)
    rw [addZ, hc]
    rcases j with _ | _
    all_goals first | (simp at hj; done) | (simp at hj; subst hj; assumption))
  go_enter Try.func93, Try.ntmps93
  go_wp2_with (refine wpList_copyLast rfl (.tmp 15) (.tmp 16) 32 32 rfl 3 Try.underlying32 infoP5 (w.alloc (.cells (prV .empty 0 0 0 0 0 0 0 false false) 63)) (w.heap.size + 1) (by show _ = (Array.push _ _).size; rw [Array.size_push]) 1 5 5 ⟨G, 0, none⟩ 1 1 rfl rfl (prV nm 0 0 0 0 0 ret maps false false) 63 [.int .i64 a] rfl rfl (hsrc.out _ (((Kept.refl _ w).alloc _).alloc _)) (by show 1 + 1 ≤ 10; omega) (by intro v hv; simp at hv; rcases hv with rfl <;> rfl) (prV nm a 0 0 0 0 ret maps false false) rfl ?_)
  refine bodyPost_ret (results_cell_row rfl _ _ w.heap.size _ (prV nm a 0 0 0 0 ret maps false false) (0, 0) _ rfl ((Blk.new w _ _).alloc _) Try.underlying63 rfl (by kernel_rfl)) rfl ?_
  exact ⟨rfl, ((Kept.refl _ w).alloc _).alloc _⟩
set_option maxHeartbeats 2000000 in
theorem pof2 (nm : ByteArray) (ret maps a b : Int) (G : Nat) (w : World) (hlt : G < w.heap.size) (h0 : w.cell? ⟨G, 0, none⟩ = some (.int .i64 a)) (h1 : w.cell? ⟨G, 1, none⟩ = some (.int .i64 b)) : Calls Try.prog 93 #[.string nm, .int .i64 ret, .int .i64 maps, .slice (some ⟨G, 0, none⟩) 2 2] w fun e w' => e = .returned (.agg (prV nm a b 0 0 0 ret maps false false)) ∧ Kept (fun _ => False) w w' := by
  have hsrc : Hid (∀ (w1 : World), Kept (fun _ => False) w w1 → ∀ (j : Nat) (v : Value), ([.int .i64 a, .int .i64 b] : List Value)[j]? = some v → w1.cell? ((⟨G, 0, none⟩ : Addr).add j) = some v) := Lib.hid (fun w1 hk j v hj => by
    have hc : ∀ k, w1.cell? ⟨G, k, none⟩ = w.cell? ⟨G, k, none⟩ := fun k => hk.cell (p := ⟨G, k, none⟩) hlt (fun h => h)
    rw [addZ, hc]
    rcases j with _ | _ | _
    all_goals first | (simp at hj; done) | (simp at hj; subst hj; assumption))
  go_enter Try.func93, Try.ntmps93
  go_wp2_with (refine wpList_copyLast rfl (.tmp 15) (.tmp 16) 32 32 rfl 3 Try.underlying32 infoP5 (w.alloc (.cells (prV .empty 0 0 0 0 0 0 0 false false) 63)) (w.heap.size + 1) (by show _ = (Array.push _ _).size; rw [Array.size_push]) 1 5 5 ⟨G, 0, none⟩ 2 2 rfl rfl (prV nm 0 0 0 0 0 ret maps false false) 63 [.int .i64 a, .int .i64 b] rfl rfl (hsrc.out _ (((Kept.refl _ w).alloc _).alloc _)) (by show 1 + 2 ≤ 10; omega) (by intro v hv; simp at hv; rcases hv with rfl | rfl <;> rfl) (prV nm a b 0 0 0 ret maps false false) rfl ?_)
  refine bodyPost_ret (results_cell_row rfl _ _ w.heap.size _ (prV nm a b 0 0 0 ret maps false false) (0, 0) _ rfl ((Blk.new w _ _).alloc _) Try.underlying63 rfl (by kernel_rfl)) rfl ?_
  exact ⟨rfl, ((Kept.refl _ w).alloc _).alloc _⟩
set_option maxHeartbeats 2000000 in
theorem pof3 (nm : ByteArray) (ret maps a b c : Int) (G : Nat) (w : World) (hlt : G < w.heap.size) (h0 : w.cell? ⟨G, 0, none⟩ = some (.int .i64 a)) (h1 : w.cell? ⟨G, 1, none⟩ = some (.int .i64 b)) (h2 : w.cell? ⟨G, 2, none⟩ = some (.int .i64 c)) : Calls Try.prog 93 #[.string nm, .int .i64 ret, .int .i64 maps, .slice (some ⟨G, 0, none⟩) 3 3] w fun e w' => e = .returned (.agg (prV nm a b c 0 0 ret maps false false)) ∧ Kept (fun _ => False) w w' := by
  have hsrc : Hid (∀ (w1 : World), Kept (fun _ => False) w w1 → ∀ (j : Nat) (v : Value), ([.int .i64 a, .int .i64 b, .int .i64 c] : List Value)[j]? = some v → w1.cell? ((⟨G, 0, none⟩ : Addr).add j) = some v) := Lib.hid (fun w1 hk j v hj => by
    have hc : ∀ k, w1.cell? ⟨G, k, none⟩ = w.cell? ⟨G, k, none⟩ := fun k => hk.cell (p := ⟨G, k, none⟩) hlt (fun h => h)
    rw [addZ, hc]
    rcases j with _ | _ | _ | _
    all_goals first | (simp at hj; done) | (simp at hj; subst hj; assumption))
  go_enter Try.func93, Try.ntmps93
  go_wp2_with (refine wpList_copyLast rfl (.tmp 15) (.tmp 16) 32 32 rfl 3 Try.underlying32 infoP5 (w.alloc (.cells (prV .empty 0 0 0 0 0 0 0 false false) 63)) (w.heap.size + 1) (by show _ = (Array.push _ _).size; rw [Array.size_push]) 1 5 5 ⟨G, 0, none⟩ 3 3 rfl rfl (prV nm 0 0 0 0 0 ret maps false false) 63 [.int .i64 a, .int .i64 b, .int .i64 c] rfl rfl (hsrc.out _ (((Kept.refl _ w).alloc _).alloc _)) (by show 1 + 3 ≤ 10; omega) (by intro v hv; simp at hv; rcases hv with rfl | rfl | rfl <;> rfl) (prV nm a b c 0 0 ret maps false false) rfl ?_)
  refine bodyPost_ret (results_cell_row rfl _ _ w.heap.size _ (prV nm a b c 0 0 ret maps false false) (0, 0) _ rfl ((Blk.new w _ _).alloc _) Try.underlying63 rfl (by kernel_rfl)) rfl ?_
  exact ⟨rfl, ((Kept.refl _ w).alloc _).alloc _⟩
set_option maxHeartbeats 2000000 in
theorem pof4 (nm : ByteArray) (ret maps a b c d : Int) (G : Nat) (w : World) (hlt : G < w.heap.size) (h0 : w.cell? ⟨G, 0, none⟩ = some (.int .i64 a)) (h1 : w.cell? ⟨G, 1, none⟩ = some (.int .i64 b)) (h2 : w.cell? ⟨G, 2, none⟩ = some (.int .i64 c)) (h3 : w.cell? ⟨G, 3, none⟩ = some (.int .i64 d)) : Calls Try.prog 93 #[.string nm, .int .i64 ret, .int .i64 maps, .slice (some ⟨G, 0, none⟩) 4 4] w fun e w' => e = .returned (.agg (prV nm a b c d 0 ret maps false false)) ∧ Kept (fun _ => False) w w' := by
  have hsrc : Hid (∀ (w1 : World), Kept (fun _ => False) w w1 → ∀ (j : Nat) (v : Value), ([.int .i64 a, .int .i64 b, .int .i64 c, .int .i64 d] : List Value)[j]? = some v → w1.cell? ((⟨G, 0, none⟩ : Addr).add j) = some v) := Lib.hid (fun w1 hk j v hj => by
    have hc : ∀ k, w1.cell? ⟨G, k, none⟩ = w.cell? ⟨G, k, none⟩ := fun k => hk.cell (p := ⟨G, k, none⟩) hlt (fun h => h)
    rw [addZ, hc]
    rcases j with _ | _ | _ | _ | _
    all_goals first | (simp at hj; done) | (simp at hj; subst hj; assumption))
  go_enter Try.func93, Try.ntmps93
  go_wp2_with (refine wpList_copyLast rfl (.tmp 15) (.tmp 16) 32 32 rfl 3 Try.underlying32 infoP5 (w.alloc (.cells (prV .empty 0 0 0 0 0 0 0 false false) 63)) (w.heap.size + 1) (by show _ = (Array.push _ _).size; rw [Array.size_push]) 1 5 5 ⟨G, 0, none⟩ 4 4 rfl rfl (prV nm 0 0 0 0 0 ret maps false false) 63 [.int .i64 a, .int .i64 b, .int .i64 c, .int .i64 d] rfl rfl (hsrc.out _ (((Kept.refl _ w).alloc _).alloc _)) (by show 1 + 4 ≤ 10; omega) (by intro v hv; simp at hv; rcases hv with rfl | rfl | rfl | rfl <;> rfl) (prV nm a b c d 0 ret maps false false) rfl ?_)
  refine bodyPost_ret (results_cell_row rfl _ _ w.heap.size _ (prV nm a b c d 0 ret maps false false) (0, 0) _ rfl ((Blk.new w _ _).alloc _) Try.underlying63 rfl (by kernel_rfl)) rfl ?_
  exact ⟨rfl, ((Kept.refl _ w).alloc _).alloc _⟩

end Go.Proofs.Ytopdoanfpjaehaa
set_option linter.unusedSimpArgs false
set_option linter.unusedVariables false
namespace Go.Proofs.Ytopdoanfpjaehaa
open Go.RowKit

/-! ### the table of helpers -/
/-- a helper's cells, by its number -/
def prL (n : Nat) : Array Value := match n with
  | 1 => prV ⟨#[109, 97, 112, 95, 108, 111, 111, 107, 117, 112]⟩ 2 3 0 0 0 1 6 false false
  | 2 => prV ⟨#[109, 97, 112, 95, 117, 112, 100, 97, 116, 101]⟩ 2 3 4 1 0 0 6 false false
  | 3 => prV ⟨#[109, 97, 112, 95, 100, 101, 108, 101, 116, 101]⟩ 2 3 0 0 0 0 6 false false
  | 4 => prV ⟨#[99, 108, 111, 99, 107]⟩ 0 0 0 0 0 0 0 false false
  | 5 => prV ⟨#[114, 97, 110, 100, 111, 109]⟩ 0 0 0 0 0 0 0 false false
  | 6 => prV ⟨#[116, 97, 105, 108, 95, 99, 97, 108, 108]⟩ 8 2 1 0 0 0 8 false false
  | 7 => prV ⟨#[108, 111, 111, 112]⟩ 1 9 17 0 0 0 0 false false
  | 8 => prV ⟨#[114, 105, 110, 103, 95, 111, 117, 116, 112, 117, 116]⟩ 2 5 7 0 0 0 16 false false
  | 9 => prV ⟨#[114, 105, 110, 103, 95, 114, 101, 115, 101, 114, 118, 101]⟩ 2 1 0 0 0 2 16 true false
  | 10 => prV ⟨#[114, 105, 110, 103, 95, 115, 117, 98, 109, 105, 116]⟩ 10 0 0 0 0 0 0 false true
  | 11 => prV ⟨#[114, 105, 110, 103, 95, 100, 105, 115, 99, 97, 114, 100]⟩ 10 0 0 0 0 0 0 false true
  | 12 => prV ⟨#[114, 105, 110, 103, 95, 113, 117, 101, 114, 121]⟩ 2 0 0 0 0 0 16 false false
  | 13 => prV ⟨#[115, 111, 99, 107, 95, 108, 111, 111, 107, 117, 112]⟩ 8 5 7 0 0 3 0 true false
  | 14 => prV ⟨#[115, 111, 99, 107, 95, 114, 101, 108, 101, 97, 115, 101]⟩ 11 0 0 0 0 0 0 false true
  | 15 => prV ⟨#[116, 105, 109, 101, 114, 95, 105, 110, 105, 116]⟩ 12 2 0 0 0 0 6 false false
  | 16 => prV ⟨#[116, 105, 109, 101, 114, 95, 99, 97, 108, 108, 98, 97, 99, 107]⟩ 12 9 0 0 0 0 0 false false
  | 17 => prV ⟨#[116, 105, 109, 101, 114, 95, 115, 116, 97, 114, 116]⟩ 12 1 0 0 0 0 0 false false
  | 18 => prV ⟨#[116, 105, 109, 101, 114, 95, 99, 97, 110, 99, 101, 108]⟩ 12 0 0 0 0 0 0 false false
  | 19 => prV ⟨#[100, 121, 110, 95, 114, 101, 115, 101, 114, 118, 101]⟩ 2 1 13 0 0 0 16 true false
  | 20 => prV ⟨#[100, 121, 110, 95, 115, 117, 98, 109, 105, 116]⟩ 14 0 0 0 0 0 0 false true
  | 21 => prV ⟨#[100, 121, 110, 95, 100, 105, 115, 99, 97, 114, 100]⟩ 14 0 0 0 0 0 0 false true
  | 22 => prV ⟨#[100, 121, 110, 95, 109, 101, 109]⟩ 5 7 13 0 0 0 0 false false
  | 23 => prV ⟨#[100, 121, 110, 95, 114, 101, 97, 100]⟩ 6 7 14 1 0 0 0 false false
  | 24 => prV ⟨#[100, 121, 110, 95, 119, 114, 105, 116, 101]⟩ 14 1 5 7 0 0 0 false false
  | 25 => prV ⟨#[100, 121, 110, 95, 100, 97, 116, 97]⟩ 14 1 1 0 0 4 0 false false
  | 26 => prV ⟨#[105, 116, 101, 114, 95, 110, 101, 119]⟩ 15 1 1 0 0 0 0 true false
  | 27 => prV ⟨#[105, 116, 101, 114, 95, 110, 101, 120, 116]⟩ 16 0 0 0 0 5 0 false false
  | 28 => prV ⟨#[105, 116, 101, 114, 95, 100, 114, 111, 112]⟩ 16 0 0 0 0 0 0 false true
  | _ => prV .empty 0 0 0 0 0 0 0 false false
def tabV : Array Value := #[.string .empty, .int .i64 0, .int .i64 0, .int .i64 0, .int .i64 0, .int .i64 0, .int .i64 0, .int .i64 0, .bool false, .bool false, .string ⟨#[109, 97, 112, 95, 108, 111, 111, 107, 117, 112]⟩, .int .i64 2, .int .i64 3, .int .i64 0, .int .i64 0, .int .i64 0, .int .i64 1, .int .i64 6, .bool false, .bool false, .string ⟨#[109, 97, 112, 95, 117, 112, 100, 97, 116, 101]⟩, .int .i64 2, .int .i64 3, .int .i64 4, .int .i64 1, .int .i64 0, .int .i64 0, .int .i64 6, .bool false, .bool false, .string ⟨#[109, 97, 112, 95, 100, 101, 108, 101, 116, 101]⟩, .int .i64 2, .int .i64 3, .int .i64 0, .int .i64 0, .int .i64 0, .int .i64 0, .int .i64 6, .bool false, .bool false, .string ⟨#[99, 108, 111, 99, 107]⟩, .int .i64 0, .int .i64 0, .int .i64 0, .int .i64 0, .int .i64 0, .int .i64 0, .int .i64 0, .bool false, .bool false, .string ⟨#[114, 97, 110, 100, 111, 109]⟩, .int .i64 0, .int .i64 0, .int .i64 0, .int .i64 0, .int .i64 0, .int .i64 0, .int .i64 0, .bool false, .bool false, .string ⟨#[116, 97, 105, 108, 95, 99, 97, 108, 108]⟩, .int .i64 8, .int .i64 2, .int .i64 1, .int .i64 0, .int .i64 0, .int .i64 0, .int .i64 8, .bool false, .bool false, .string ⟨#[108, 111, 111, 112]⟩, .int .i64 1, .int .i64 9, .int .i64 17, .int .i64 0, .int .i64 0, .int .i64 0, .int .i64 0, .bool false, .bool false, .string ⟨#[114, 105, 110, 103, 95, 111, 117, 116, 112, 117, 116]⟩, .int .i64 2, .int .i64 5, .int .i64 7, .int .i64 0, .int .i64 0, .int .i64 0, .int .i64 16, .bool false, .bool false, .string ⟨#[114, 105, 110, 103, 95, 114, 101, 115, 101, 114, 118, 101]⟩, .int .i64 2, .int .i64 1, .int .i64 0, .int .i64 0, .int .i64 0, .int .i64 2, .int .i64 16, .bool true, .bool false, .string ⟨#[114, 105, 110, 103, 95, 115, 117, 98, 109, 105, 116]⟩, .int .i64 10, .int .i64 0, .int .i64 0, .int .i64 0, .int .i64 0, .int .i64 0, .int .i64 0, .bool false, .bool true, .string ⟨#[114, 105, 110, 103, 95, 100, 105, 115, 99, 97, 114, 100]⟩, .int .i64 10, .int .i64 0, .int .i64 0, .int .i64 0, .int .i64 0, .int .i64 0, .int .i64 0, .bool false, .bool true, .string ⟨#[114, 105, 110, 103, 95, 113, 117, 101, 114, 121]⟩, .int .i64 2, .int .i64 0, .int .i64 0, .int .i64 0, .int .i64 0, .int .i64 0, .int .i64 16, .bool false, .bool false, .string ⟨#[115, 111, 99, 107, 95, 108, 111, 111, 107, 117, 112]⟩, .int .i64 8, .int .i64 5, .int .i64 7, .int .i64 0, .int .i64 0, .int .i64 3, .int .i64 0, .bool true, .bool false, .string ⟨#[115, 111, 99, 107, 95, 114, 101, 108, 101, 97, 115, 101]⟩, .int .i64 11, .int .i64 0, .int .i64 0, .int .i64 0, .int .i64 0, .int .i64 0, .int .i64 0, .bool false, .bool true, .string ⟨#[116, 105, 109, 101, 114, 95, 105, 110, 105, 116]⟩, .int .i64 12, .int .i64 2, .int .i64 0, .int .i64 0, .int .i64 0, .int .i64 0, .int .i64 6, .bool false, .bool false, .string ⟨#[116, 105, 109, 101, 114, 95, 99, 97, 108, 108, 98, 97, 99, 107]⟩, .int .i64 12, .int .i64 9, .int .i64 0, .int .i64 0, .int .i64 0, .int .i64 0, .int .i64 0, .bool false, .bool false, .string ⟨#[116, 105, 109, 101, 114, 95, 115, 116, 97, 114, 116]⟩, .int .i64 12, .int .i64 1, .int .i64 0, .int .i64 0, .int .i64 0, .int .i64 0, .int .i64 0, .bool false, .bool false, .string ⟨#[116, 105, 109, 101, 114, 95, 99, 97, 110, 99, 101, 108]⟩, .int .i64 12, .int .i64 0, .int .i64 0, .int .i64 0, .int .i64 0, .int .i64 0, .int .i64 0, .bool false, .bool false, .string ⟨#[100, 121, 110, 95, 114, 101, 115, 101, 114, 118, 101]⟩, .int .i64 2, .int .i64 1, .int .i64 13, .int .i64 0, .int .i64 0, .int .i64 0, .int .i64 16, .bool true, .bool false, .string ⟨#[100, 121, 110, 95, 115, 117, 98, 109, 105, 116]⟩, .int .i64 14, .int .i64 0, .int .i64 0, .int .i64 0, .int .i64 0, .int .i64 0, .int .i64 0, .bool false, .bool true, .string ⟨#[100, 121, 110, 95, 100, 105, 115, 99, 97, 114, 100]⟩, .int .i64 14, .int .i64 0, .int .i64 0, .int .i64 0, .int .i64 0, .int .i64 0, .int .i64 0, .bool false, .bool true, .string ⟨#[100, 121, 110, 95, 109, 101, 109]⟩, .int .i64 5, .int .i64 7, .int .i64 13, .int .i64 0, .int .i64 0, .int .i64 0, .int .i64 0, .bool false, .bool false, .string ⟨#[100, 121, 110, 95, 114, 101, 97, 100]⟩, .int .i64 6, .int .i64 7, .int .i64 14, .int .i64 1, .int .i64 0, .int .i64 0, .int .i64 0, .bool false, .bool false, .string ⟨#[100, 121, 110, 95, 119, 114, 105, 116, 101]⟩, .int .i64 14, .int .i64 1, .int .i64 5, .int .i64 7, .int .i64 0, .int .i64 0, .int .i64 0, .bool false, .bool false, .string ⟨#[100, 121, 110, 95, 100, 97, 116, 97]⟩, .int .i64 14, .int .i64 1, .int .i64 1, .int .i64 0, .int .i64 0, .int .i64 4, .int .i64 0, .bool false, .bool false, .string ⟨#[105, 116, 101, 114, 95, 110, 101, 119]⟩, .int .i64 15, .int .i64 1, .int .i64 1, .int .i64 0, .int .i64 0, .int .i64 0, .int .i64 0, .bool true, .bool false, .string ⟨#[105, 116, 101, 114, 95, 110, 101, 120, 116]⟩, .int .i64 16, .int .i64 0, .int .i64 0, .int .i64 0, .int .i64 0, .int .i64 5, .int .i64 0, .bool false, .bool false, .string ⟨#[105, 116, 101, 114, 95, 100, 114, 111, 112]⟩, .int .i64 16, .int .i64 0, .int .i64 0, .int .i64 0, .int .i64 0, .int .i64 0, .int .i64 0, .bool false, .bool true]
section
variable {P : Program} {w : World} {ops : Array Oper} {rest : List Oper} {o : Oper} {a : Act} {Q : Exit → Act → World → Prop}
theorem wpList_buildV (hgd : o.guard = none) (t : TypeId) (L : List (Nat × Operand)) (ho : o.op = .build t L.toArray) (vs : List (Nat × Value)) (hvs : (L.map fun p => (p.1, a.eval p.2)) = vs) (v : Value)
    (hr : ∀ w, (Instr.build t vs.toArray).run P w = .ok v w) (h : wpList P ops Q rest (a.put o.dst v) w) : wpList P ops Q (o :: rest) a w := by
  refine wpList_plain hgd fun K hK => ?_
  have hr2 := hr w
  subst hvs
  unfold Oper.wp
  simp only [execOp, ho]
  have e : (L.toArray.map fun (x : Nat × Operand) => (x.1, a.eval x.2)) = (L.map fun p => (p.1, a.eval p.2)).toArray := by simp
  simp [e, hr2, Result.andThen]
  exact hK _ _ h
end
theorem pacq (nm : ByteArray) (a0 a1 a2 a3 a4 ret maps : Int) (ac re : Bool) (w : World) : Calls Try.prog 94 #[.agg (prV nm a0 a1 a2 a3 a4 ret maps ac re)] w fun e w' => e = .returned (.agg (prV nm a0 a1 a2 a3 a4 ret maps true re)) ∧ Kept (fun _ => False) w w' := by
  go_enter Try.func94, Try.ntmps94
  go_wp2_with fail
  refine bodyPost_ret (results_cell_row rfl _ _ (w.heap.size + 1) _ (prV nm a0 a1 a2 a3 a4 ret maps true re) (0, 0) _ rfl (by first | exact Blk.new (w.alloc _) _ _ | (have := Blk.new (w.alloc (.cells (prV nm a0 a1 a2 a3 a4 ret maps true re) 63)) 63 (prV nm a0 a1 a2 a3 a4 ret maps true re); have e : (w.alloc (.cells (prV nm a0 a1 a2 a3 a4 ret maps true re) 63)).heap.size = w.heap.size + 1 := (by show (Array.push _ _).size = _; rw [Array.size_push]); rw [e] at this; exact this)) Try.underlying63 rfl (by kernel_rfl)) rfl ?_
  exact ⟨rfl, ((Kept.refl _ w).alloc _).alloc _⟩
theorem prel (nm : ByteArray) (a0 a1 a2 a3 a4 ret maps : Int) (ac re : Bool) (w : World) : Calls Try.prog 95 #[.agg (prV nm a0 a1 a2 a3 a4 ret maps ac re)] w fun e w' => e = .returned (.agg (prV nm a0 a1 a2 a3 a4 ret maps ac true)) ∧ Kept (fun _ => False) w w' := by
  go_enter Try.func95, Try.ntmps95
  go_wp2_with fail
  refine bodyPost_ret (results_cell_row rfl _ _ (w.heap.size + 1) _ (prV nm a0 a1 a2 a3 a4 ret maps ac true) (0, 0) _ rfl (by have := Blk.new (w.alloc (.cells (prV nm a0 a1 a2 a3 a4 ret maps ac true) 63)) 63 (prV nm a0 a1 a2 a3 a4 ret maps ac true); have e : (w.alloc (.cells (prV nm a0 a1 a2 a3 a4 ret maps ac true) 63)).heap.size = w.heap.size + 1 := (by show (Array.push _ _).size = _; rw [Array.size_push]); rw [e] at this; exact this) Try.underlying63 rfl (by kernel_rfl)) rfl ?_
  exact ⟨rfl, ((Kept.refl _ w).alloc _).alloc _⟩


end Go.Proofs.Ytopdoanfpjaehaa

set_option linter.unusedSimpArgs false
set_option linter.unusedVariables false
namespace Go.Proofs.Ytopdoanfpjaehaa
open Go.RowKit

/-- a helper as 'of' makes it -/
def prB (n : Nat) : Array Value := match n with
  | 1 => prV ⟨#[109, 97, 112, 95, 108, 111, 111, 107, 117, 112]⟩ 2 3 0 0 0 1 6 false false
  | 2 => prV ⟨#[109, 97, 112, 95, 117, 112, 100, 97, 116, 101]⟩ 2 3 4 1 0 0 6 false false
  | 3 => prV ⟨#[109, 97, 112, 95, 100, 101, 108, 101, 116, 101]⟩ 2 3 0 0 0 0 6 false false
  | 4 => prV ⟨#[99, 108, 111, 99, 107]⟩ 0 0 0 0 0 0 0 false false
  | 5 => prV ⟨#[114, 97, 110, 100, 111, 109]⟩ 0 0 0 0 0 0 0 false false
  | 6 => prV ⟨#[116, 97, 105, 108, 95, 99, 97, 108, 108]⟩ 8 2 1 0 0 0 8 false false
  | 7 => prV ⟨#[108, 111, 111, 112]⟩ 1 9 17 0 0 0 0 false false
  | 8 => prV ⟨#[114, 105, 110, 103, 95, 111, 117, 116, 112, 117, 116]⟩ 2 5 7 0 0 0 16 false false
  | 9 => prV ⟨#[114, 105, 110, 103, 95, 114, 101, 115, 101, 114, 118, 101]⟩ 2 1 0 0 0 2 16 false false
  | 10 => prV ⟨#[114, 105, 110, 103, 95, 115, 117, 98, 109, 105, 116]⟩ 10 0 0 0 0 0 0 false false
  | 11 => prV ⟨#[114, 105, 110, 103, 95, 100, 105, 115, 99, 97, 114, 100]⟩ 10 0 0 0 0 0 0 false false
  | 12 => prV ⟨#[114, 105, 110, 103, 95, 113, 117, 101, 114, 121]⟩ 2 0 0 0 0 0 16 false false
  | 13 => prV ⟨#[115, 111, 99, 107, 95, 108, 111, 111, 107, 117, 112]⟩ 8 5 7 0 0 3 0 false false
  | 14 => prV ⟨#[115, 111, 99, 107, 95, 114, 101, 108, 101, 97, 115, 101]⟩ 11 0 0 0 0 0 0 false false
  | 15 => prV ⟨#[116, 105, 109, 101, 114, 95, 105, 110, 105, 116]⟩ 12 2 0 0 0 0 6 false false
  | 16 => prV ⟨#[116, 105, 109, 101, 114, 95, 99, 97, 108, 108, 98, 97, 99, 107]⟩ 12 9 0 0 0 0 0 false false
  | 17 => prV ⟨#[116, 105, 109, 101, 114, 95, 115, 116, 97, 114, 116]⟩ 12 1 0 0 0 0 0 false false
  | 18 => prV ⟨#[116, 105, 109, 101, 114, 95, 99, 97, 110, 99, 101, 108]⟩ 12 0 0 0 0 0 0 false false
  | 19 => prV ⟨#[100, 121, 110, 95, 114, 101, 115, 101, 114, 118, 101]⟩ 2 1 13 0 0 0 16 false false
  | 20 => prV ⟨#[100, 121, 110, 95, 115, 117, 98, 109, 105, 116]⟩ 14 0 0 0 0 0 0 false false
  | 21 => prV ⟨#[100, 121, 110, 95, 100, 105, 115, 99, 97, 114, 100]⟩ 14 0 0 0 0 0 0 false false
  | 22 => prV ⟨#[100, 121, 110, 95, 109, 101, 109]⟩ 5 7 13 0 0 0 0 false false
  | 23 => prV ⟨#[100, 121, 110, 95, 114, 101, 97, 100]⟩ 6 7 14 1 0 0 0 false false
  | 24 => prV ⟨#[100, 121, 110, 95, 119, 114, 105, 116, 101]⟩ 14 1 5 7 0 0 0 false false
  | 25 => prV ⟨#[100, 121, 110, 95, 100, 97, 116, 97]⟩ 14 1 1 0 0 4 0 false false
  | 26 => prV ⟨#[105, 116, 101, 114, 95, 110, 101, 119]⟩ 15 1 1 0 0 0 0 false false
  | 27 => prV ⟨#[105, 116, 101, 114, 95, 110, 101, 120, 116]⟩ 16 0 0 0 0 5 0 false false
  | 28 => prV ⟨#[105, 116, 101, 114, 95, 100, 114, 111, 112]⟩ 16 0 0 0 0 0 0 false false
  | _ => prV .empty 0 0 0 0 0 0 0 false false
def tabParts : List (Nat × Value) := [(1, .agg (prB 1)), (2, .agg (prB 2)), (3, .agg (prB 3)), (4, .agg (prB 4)), (5, .agg (prB 5)), (6, .agg (prB 6)), (7, .agg (prB 7)), (8, .agg (prB 8)), (9, .agg (prL 9)), (10, .agg (prL 10)), (11, .agg (prL 11)), (12, .agg (prB 12)), (13, .agg (prL 13)), (14, .agg (prL 14)), (15, .agg (prB 15)), (16, .agg (prB 16)), (17, .agg (prB 17)), (18, .agg (prB 18)), (19, .agg (prL 19)), (20, .agg (prL 20)), (21, .agg (prL 21)), (22, .agg (prB 22)), (23, .agg (prB 23)), (24, .agg (prB 24)), (25, .agg (prB 25)), (26, .agg (prL 26)), (27, .agg (prB 27)), (28, .agg (prL 28))]
theorem tab_build (w : World) : (Instr.build 101 tabParts.toArray).run Try.prog w = .ok (.agg tabV) w := by kernel_rfl
theorem pk1 (w : World) (t : TypeId) : Calls Try.prog 93 #[.string ⟨#[109, 97, 112, 95, 108, 111, 111, 107, 117, 112]⟩, .int .i64 1, .int .i64 6, .slice (some ⟨w.heap.size, 0, none⟩) 2 2] (w.alloc (.cells #[.int .i64 2, .int .i64 3] t)) fun e w' => e = .returned (.agg (prB 1)) ∧ Kept (fun _ => False) w w' :=
  (pof2 _ _ _ 2 3 w.heap.size _ (Blk.new w _ _).lt ((Blk.new w _ _).cell 0) ((Blk.new w _ _).cell 1)).mono (fun e w2 h => ⟨h.1, ((Kept.refl _ w).alloc _).trans h.2 (fun _ _ h => h)⟩)
theorem pk2 (w : World) (t : TypeId) : Calls Try.prog 93 #[.string ⟨#[109, 97, 112, 95, 117, 112, 100, 97, 116, 101]⟩, .int .i64 0, .int .i64 6, .slice (some ⟨w.heap.size, 0, none⟩) 4 4] (w.alloc (.cells #[.int .i64 2, .int .i64 3, .int .i64 4, .int .i64 1] t)) fun e w' => e = .returned (.agg (prB 2)) ∧ Kept (fun _ => False) w w' :=
  (pof4 _ _ _ 2 3 4 1 w.heap.size _ (Blk.new w _ _).lt ((Blk.new w _ _).cell 0) ((Blk.new w _ _).cell 1) ((Blk.new w _ _).cell 2) ((Blk.new w _ _).cell 3)).mono (fun e w2 h => ⟨h.1, ((Kept.refl _ w).alloc _).trans h.2 (fun _ _ h => h)⟩)
theorem pk3 (w : World) (t : TypeId) : Calls Try.prog 93 #[.string ⟨#[109, 97, 112, 95, 100, 101, 108, 101, 116, 101]⟩, .int .i64 0, .int .i64 6, .slice (some ⟨w.heap.size, 0, none⟩) 2 2] (w.alloc (.cells #[.int .i64 2, .int .i64 3] t)) fun e w' => e = .returned (.agg (prB 3)) ∧ Kept (fun _ => False) w w' :=
  (pof2 _ _ _ 2 3 w.heap.size _ (Blk.new w _ _).lt ((Blk.new w _ _).cell 0) ((Blk.new w _ _).cell 1)).mono (fun e w2 h => ⟨h.1, ((Kept.refl _ w).alloc _).trans h.2 (fun _ _ h => h)⟩)
theorem pk4 (w : World) : Calls Try.prog 93 #[.string ⟨#[99, 108, 111, 99, 107]⟩, .int .i64 0, .int .i64 0, .slice none 0 0] w fun e w' => e = .returned (.agg (prB 4)) ∧ Kept (fun _ => False) w w' := pof0 _ _ _ w
theorem pk5 (w : World) : Calls Try.prog 93 #[.string ⟨#[114, 97, 110, 100, 111, 109]⟩, .int .i64 0, .int .i64 0, .slice none 0 0] w fun e w' => e = .returned (.agg (prB 5)) ∧ Kept (fun _ => False) w w' := pof0 _ _ _ w
theorem pk6 (w : World) (t : TypeId) : Calls Try.prog 93 #[.string ⟨#[116, 97, 105, 108, 95, 99, 97, 108, 108]⟩, .int .i64 0, .int .i64 8, .slice (some ⟨w.heap.size, 0, none⟩) 3 3] (w.alloc (.cells #[.int .i64 8, .int .i64 2, .int .i64 1] t)) fun e w' => e = .returned (.agg (prB 6)) ∧ Kept (fun _ => False) w w' :=
  (pof3 _ _ _ 8 2 1 w.heap.size _ (Blk.new w _ _).lt ((Blk.new w _ _).cell 0) ((Blk.new w _ _).cell 1) ((Blk.new w _ _).cell 2)).mono (fun e w2 h => ⟨h.1, ((Kept.refl _ w).alloc _).trans h.2 (fun _ _ h => h)⟩)
theorem pk7 (w : World) (t : TypeId) : Calls Try.prog 93 #[.string ⟨#[108, 111, 111, 112]⟩, .int .i64 0, .int .i64 0, .slice (some ⟨w.heap.size, 0, none⟩) 3 3] (w.alloc (.cells #[.int .i64 1, .int .i64 9, .int .i64 17] t)) fun e w' => e = .returned (.agg (prB 7)) ∧ Kept (fun _ => False) w w' :=
  (pof3 _ _ _ 1 9 17 w.heap.size _ (Blk.new w _ _).lt ((Blk.new w _ _).cell 0) ((Blk.new w _ _).cell 1) ((Blk.new w _ _).cell 2)).mono (fun e w2 h => ⟨h.1, ((Kept.refl _ w).alloc _).trans h.2 (fun _ _ h => h)⟩)
theorem pk8 (w : World) (t : TypeId) : Calls Try.prog 93 #[.string ⟨#[114, 105, 110, 103, 95, 111, 117, 116, 112, 117, 116]⟩, .int .i64 0, .int .i64 16, .slice (some ⟨w.heap.size, 0, none⟩) 3 3] (w.alloc (.cells #[.int .i64 2, .int .i64 5, .int .i64 7] t)) fun e w' => e = .returned (.agg (prB 8)) ∧ Kept (fun _ => False) w w' :=
  (pof3 _ _ _ 2 5 7 w.heap.size _ (Blk.new w _ _).lt ((Blk.new w _ _).cell 0) ((Blk.new w _ _).cell 1) ((Blk.new w _ _).cell 2)).mono (fun e w2 h => ⟨h.1, ((Kept.refl _ w).alloc _).trans h.2 (fun _ _ h => h)⟩)
theorem pk9 (w : World) (t : TypeId) : Calls Try.prog 93 #[.string ⟨#[114, 105, 110, 103, 95, 114, 101, 115, 101, 114, 118, 101]⟩, .int .i64 2, .int .i64 16, .slice (some ⟨w.heap.size, 0, none⟩) 2 2] (w.alloc (.cells #[.int .i64 2, .int .i64 1] t)) fun e w' => e = .returned (.agg (prB 9)) ∧ Kept (fun _ => False) w w' :=
  (pof2 _ _ _ 2 1 w.heap.size _ (Blk.new w _ _).lt ((Blk.new w _ _).cell 0) ((Blk.new w _ _).cell 1)).mono (fun e w2 h => ⟨h.1, ((Kept.refl _ w).alloc _).trans h.2 (fun _ _ h => h)⟩)
theorem pa9 (w : World) : Calls Try.prog 94 #[.agg (prB 9)] w fun e w' => e = .returned (.agg (prL 9)) ∧ Kept (fun _ => False) w w' := pacq _ _ _ _ _ _ _ _ _ _ w
theorem pk10 (w : World) (t : TypeId) : Calls Try.prog 93 #[.string ⟨#[114, 105, 110, 103, 95, 115, 117, 98, 109, 105, 116]⟩, .int .i64 0, .int .i64 0, .slice (some ⟨w.heap.size, 0, none⟩) 1 1] (w.alloc (.cells #[.int .i64 10] t)) fun e w' => e = .returned (.agg (prB 10)) ∧ Kept (fun _ => False) w w' :=
  (pof1 _ _ _ 10 w.heap.size _ (Blk.new w _ _).lt ((Blk.new w _ _).cell 0)).mono (fun e w2 h => ⟨h.1, ((Kept.refl _ w).alloc _).trans h.2 (fun _ _ h => h)⟩)
theorem pa10 (w : World) : Calls Try.prog 95 #[.agg (prB 10)] w fun e w' => e = .returned (.agg (prL 10)) ∧ Kept (fun _ => False) w w' := prel _ _ _ _ _ _ _ _ _ _ w
theorem pk11 (w : World) (t : TypeId) : Calls Try.prog 93 #[.string ⟨#[114, 105, 110, 103, 95, 100, 105, 115, 99, 97, 114, 100]⟩, .int .i64 0, .int .i64 0, .slice (some ⟨w.heap.size, 0, none⟩) 1 1] (w.alloc (.cells #[.int .i64 10] t)) fun e w' => e = .returned (.agg (prB 11)) ∧ Kept (fun _ => False) w w' :=
  (pof1 _ _ _ 10 w.heap.size _ (Blk.new w _ _).lt ((Blk.new w _ _).cell 0)).mono (fun e w2 h => ⟨h.1, ((Kept.refl _ w).alloc _).trans h.2 (fun _ _ h => h)⟩)
theorem pa11 (w : World) : Calls Try.prog 95 #[.agg (prB 11)] w fun e w' => e = .returned (.agg (prL 11)) ∧ Kept (fun _ => False) w w' := prel _ _ _ _ _ _ _ _ _ _ w
theorem pk12 (w : World) (t : TypeId) : Calls Try.prog 93 #[.string ⟨#[114, 105, 110, 103, 95, 113, 117, 101, 114, 121]⟩, .int .i64 0, .int .i64 16, .slice (some ⟨w.heap.size, 0, none⟩) 1 1] (w.alloc (.cells #[.int .i64 2] t)) fun e w' => e = .returned (.agg (prB 12)) ∧ Kept (fun _ => False) w w' :=
  (pof1 _ _ _ 2 w.heap.size _ (Blk.new w _ _).lt ((Blk.new w _ _).cell 0)).mono (fun e w2 h => ⟨h.1, ((Kept.refl _ w).alloc _).trans h.2 (fun _ _ h => h)⟩)
theorem pk13 (w : World) (t : TypeId) : Calls Try.prog 93 #[.string ⟨#[115, 111, 99, 107, 95, 108, 111, 111, 107, 117, 112]⟩, .int .i64 3, .int .i64 0, .slice (some ⟨w.heap.size, 0, none⟩) 3 3] (w.alloc (.cells #[.int .i64 8, .int .i64 5, .int .i64 7] t)) fun e w' => e = .returned (.agg (prB 13)) ∧ Kept (fun _ => False) w w' :=
  (pof3 _ _ _ 8 5 7 w.heap.size _ (Blk.new w _ _).lt ((Blk.new w _ _).cell 0) ((Blk.new w _ _).cell 1) ((Blk.new w _ _).cell 2)).mono (fun e w2 h => ⟨h.1, ((Kept.refl _ w).alloc _).trans h.2 (fun _ _ h => h)⟩)
theorem pa13 (w : World) : Calls Try.prog 94 #[.agg (prB 13)] w fun e w' => e = .returned (.agg (prL 13)) ∧ Kept (fun _ => False) w w' := pacq _ _ _ _ _ _ _ _ _ _ w
theorem pk14 (w : World) (t : TypeId) : Calls Try.prog 93 #[.string ⟨#[115, 111, 99, 107, 95, 114, 101, 108, 101, 97, 115, 101]⟩, .int .i64 0, .int .i64 0, .slice (some ⟨w.heap.size, 0, none⟩) 1 1] (w.alloc (.cells #[.int .i64 11] t)) fun e w' => e = .returned (.agg (prB 14)) ∧ Kept (fun _ => False) w w' :=
  (pof1 _ _ _ 11 w.heap.size _ (Blk.new w _ _).lt ((Blk.new w _ _).cell 0)).mono (fun e w2 h => ⟨h.1, ((Kept.refl _ w).alloc _).trans h.2 (fun _ _ h => h)⟩)
theorem pa14 (w : World) : Calls Try.prog 95 #[.agg (prB 14)] w fun e w' => e = .returned (.agg (prL 14)) ∧ Kept (fun _ => False) w w' := prel _ _ _ _ _ _ _ _ _ _ w
theorem pk15 (w : World) (t : TypeId) : Calls Try.prog 93 #[.string ⟨#[116, 105, 109, 101, 114, 95, 105, 110, 105, 116]⟩, .int .i64 0, .int .i64 6, .slice (some ⟨w.heap.size, 0, none⟩) 2 2] (w.alloc (.cells #[.int .i64 12, .int .i64 2] t)) fun e w' => e = .returned (.agg (prB 15)) ∧ Kept (fun _ => False) w w' :=
  (pof2 _ _ _ 12 2 w.heap.size _ (Blk.new w _ _).lt ((Blk.new w _ _).cell 0) ((Blk.new w _ _).cell 1)).mono (fun e w2 h => ⟨h.1, ((Kept.refl _ w).alloc _).trans h.2 (fun _ _ h => h)⟩)
theorem pk16 (w : World) (t : TypeId) : Calls Try.prog 93 #[.string ⟨#[116, 105, 109, 101, 114, 95, 99, 97, 108, 108, 98, 97, 99, 107]⟩, .int .i64 0, .int .i64 0, .slice (some ⟨w.heap.size, 0, none⟩) 2 2] (w.alloc (.cells #[.int .i64 12, .int .i64 9] t)) fun e w' => e = .returned (.agg (prB 16)) ∧ Kept (fun _ => False) w w' :=
  (pof2 _ _ _ 12 9 w.heap.size _ (Blk.new w _ _).lt ((Blk.new w _ _).cell 0) ((Blk.new w _ _).cell 1)).mono (fun e w2 h => ⟨h.1, ((Kept.refl _ w).alloc _).trans h.2 (fun _ _ h => h)⟩)
theorem pk17 (w : World) (t : TypeId) : Calls Try.prog 93 #[.string ⟨#[116, 105, 109, 101, 114, 95, 115, 116, 97, 114, 116]⟩, .int .i64 0, .int .i64 0, .slice (some ⟨w.heap.size, 0, none⟩) 2 2] (w.alloc (.cells #[.int .i64 12, .int .i64 1] t)) fun e w' => e = .returned (.agg (prB 17)) ∧ Kept (fun _ => False) w w' :=
  (pof2 _ _ _ 12 1 w.heap.size _ (Blk.new w _ _).lt ((Blk.new w _ _).cell 0) ((Blk.new w _ _).cell 1)).mono (fun e w2 h => ⟨h.1, ((Kept.refl _ w).alloc _).trans h.2 (fun _ _ h => h)⟩)
theorem pk18 (w : World) (t : TypeId) : Calls Try.prog 93 #[.string ⟨#[116, 105, 109, 101, 114, 95, 99, 97, 110, 99, 101, 108]⟩, .int .i64 0, .int .i64 0, .slice (some ⟨w.heap.size, 0, none⟩) 1 1] (w.alloc (.cells #[.int .i64 12] t)) fun e w' => e = .returned (.agg (prB 18)) ∧ Kept (fun _ => False) w w' :=
  (pof1 _ _ _ 12 w.heap.size _ (Blk.new w _ _).lt ((Blk.new w _ _).cell 0)).mono (fun e w2 h => ⟨h.1, ((Kept.refl _ w).alloc _).trans h.2 (fun _ _ h => h)⟩)
theorem pk19 (w : World) (t : TypeId) : Calls Try.prog 93 #[.string ⟨#[100, 121, 110, 95, 114, 101, 115, 101, 114, 118, 101]⟩, .int .i64 0, .int .i64 16, .slice (some ⟨w.heap.size, 0, none⟩) 3 3] (w.alloc (.cells #[.int .i64 2, .int .i64 1, .int .i64 13] t)) fun e w' => e = .returned (.agg (prB 19)) ∧ Kept (fun _ => False) w w' :=
  (pof3 _ _ _ 2 1 13 w.heap.size _ (Blk.new w _ _).lt ((Blk.new w _ _).cell 0) ((Blk.new w _ _).cell 1) ((Blk.new w _ _).cell 2)).mono (fun e w2 h => ⟨h.1, ((Kept.refl _ w).alloc _).trans h.2 (fun _ _ h => h)⟩)
theorem pa19 (w : World) : Calls Try.prog 94 #[.agg (prB 19)] w fun e w' => e = .returned (.agg (prL 19)) ∧ Kept (fun _ => False) w w' := pacq _ _ _ _ _ _ _ _ _ _ w
theorem pk20 (w : World) (t : TypeId) : Calls Try.prog 93 #[.string ⟨#[100, 121, 110, 95, 115, 117, 98, 109, 105, 116]⟩, .int .i64 0, .int .i64 0, .slice (some ⟨w.heap.size, 0, none⟩) 1 1] (w.alloc (.cells #[.int .i64 14] t)) fun e w' => e = .returned (.agg (prB 20)) ∧ Kept (fun _ => False) w w' :=
  (pof1 _ _ _ 14 w.heap.size _ (Blk.new w _ _).lt ((Blk.new w _ _).cell 0)).mono (fun e w2 h => ⟨h.1, ((Kept.refl _ w).alloc _).trans h.2 (fun _ _ h => h)⟩)
theorem pa20 (w : World) : Calls Try.prog 95 #[.agg (prB 20)] w fun e w' => e = .returned (.agg (prL 20)) ∧ Kept (fun _ => False) w w' := prel _ _ _ _ _ _ _ _ _ _ w
theorem pk21 (w : World) (t : TypeId) : Calls Try.prog 93 #[.string ⟨#[100, 121, 110, 95, 100, 105, 115, 99, 97, 114, 100]⟩, .int .i64 0, .int .i64 0, .slice (some ⟨w.heap.size, 0, none⟩) 1 1] (w.alloc (.cells #[.int .i64 14] t)) fun e w' => e = .returned (.agg (prB 21)) ∧ Kept (fun _ => False) w w' :=
  (pof1 _ _ _ 14 w.heap.size _ (Blk.new w _ _).lt ((Blk.new w _ _).cell 0)).mono (fun e w2 h => ⟨h.1, ((Kept.refl _ w).alloc _).trans h.2 (fun _ _ h => h)⟩)
theorem pa21 (w : World) : Calls Try.prog 95 #[.agg (prB 21)] w fun e w' => e = .returned (.agg (prL 21)) ∧ Kept (fun _ => False) w w' := prel _ _ _ _ _ _ _ _ _ _ w
theorem pk22 (w : World) (t : TypeId) : Calls Try.prog 93 #[.string ⟨#[100, 121, 110, 95, 109, 101, 109]⟩, .int .i64 0, .int .i64 0, .slice (some ⟨w.heap.size, 0, none⟩) 3 3] (w.alloc (.cells #[.int .i64 5, .int .i64 7, .int .i64 13] t)) fun e w' => e = .returned (.agg (prB 22)) ∧ Kept (fun _ => False) w w' :=
  (pof3 _ _ _ 5 7 13 w.heap.size _ (Blk.new w _ _).lt ((Blk.new w _ _).cell 0) ((Blk.new w _ _).cell 1) ((Blk.new w _ _).cell 2)).mono (fun e w2 h => ⟨h.1, ((Kept.refl _ w).alloc _).trans h.2 (fun _ _ h => h)⟩)
theorem pk23 (w : World) (t : TypeId) : Calls Try.prog 93 #[.string ⟨#[100, 121, 110, 95, 114, 101, 97, 100]⟩, .int .i64 0, .int .i64 0, .slice (some ⟨w.heap.size, 0, none⟩) 4 4] (w.alloc (.cells #[.int .i64 6, .int .i64 7, .int .i64 14, .int .i64 1] t)) fun e w' => e = .returned (.agg (prB 23)) ∧ Kept (fun _ => False) w w' :=
  (pof4 _ _ _ 6 7 14 1 w.heap.size _ (Blk.new w _ _).lt ((Blk.new w _ _).cell 0) ((Blk.new w _ _).cell 1) ((Blk.new w _ _).cell 2) ((Blk.new w _ _).cell 3)).mono (fun e w2 h => ⟨h.1, ((Kept.refl _ w).alloc _).trans h.2 (fun _ _ h => h)⟩)
theorem pk24 (w : World) (t : TypeId) : Calls Try.prog 93 #[.string ⟨#[100, 121, 110, 95, 119, 114, 105, 116, 101]⟩, .int .i64 0, .int .i64 0, .slice (some ⟨w.heap.size, 0, none⟩) 4 4] (w.alloc (.cells #[.int .i64 14, .int .i64 1, .int .i64 5, .int .i64 7] t)) fun e w' => e = .returned (.agg (prB 24)) ∧ Kept (fun _ => False) w w' :=
  (pof4 _ _ _ 14 1 5 7 w.heap.size _ (Blk.new w _ _).lt ((Blk.new w _ _).cell 0) ((Blk.new w _ _).cell 1) ((Blk.new w _ _).cell 2) ((Blk.new w _ _).cell 3)).mono (fun e w2 h => ⟨h.1, ((Kept.refl _ w).alloc _).trans h.2 (fun _ _ h => h)⟩)
theorem pk25 (w : World) (t : TypeId) : Calls Try.prog 93 #[.string ⟨#[100, 121, 110, 95, 100, 97, 116, 97]⟩, .int .i64 4, .int .i64 0, .slice (some ⟨w.heap.size, 0, none⟩) 3 3] (w.alloc (.cells #[.int .i64 14, .int .i64 1, .int .i64 1] t)) fun e w' => e = .returned (.agg (prB 25)) ∧ Kept (fun _ => False) w w' :=
  (pof3 _ _ _ 14 1 1 w.heap.size _ (Blk.new w _ _).lt ((Blk.new w _ _).cell 0) ((Blk.new w _ _).cell 1) ((Blk.new w _ _).cell 2)).mono (fun e w2 h => ⟨h.1, ((Kept.refl _ w).alloc _).trans h.2 (fun _ _ h => h)⟩)
theorem pk26 (w : World) (t : TypeId) : Calls Try.prog 93 #[.string ⟨#[105, 116, 101, 114, 95, 110, 101, 119]⟩, .int .i64 0, .int .i64 0, .slice (some ⟨w.heap.size, 0, none⟩) 3 3] (w.alloc (.cells #[.int .i64 15, .int .i64 1, .int .i64 1] t)) fun e w' => e = .returned (.agg (prB 26)) ∧ Kept (fun _ => False) w w' :=
  (pof3 _ _ _ 15 1 1 w.heap.size _ (Blk.new w _ _).lt ((Blk.new w _ _).cell 0) ((Blk.new w _ _).cell 1) ((Blk.new w _ _).cell 2)).mono (fun e w2 h => ⟨h.1, ((Kept.refl _ w).alloc _).trans h.2 (fun _ _ h => h)⟩)
theorem pa26 (w : World) : Calls Try.prog 94 #[.agg (prB 26)] w fun e w' => e = .returned (.agg (prL 26)) ∧ Kept (fun _ => False) w w' := pacq _ _ _ _ _ _ _ _ _ _ w
theorem pk27 (w : World) (t : TypeId) : Calls Try.prog 93 #[.string ⟨#[105, 116, 101, 114, 95, 110, 101, 120, 116]⟩, .int .i64 5, .int .i64 0, .slice (some ⟨w.heap.size, 0, none⟩) 1 1] (w.alloc (.cells #[.int .i64 16] t)) fun e w' => e = .returned (.agg (prB 27)) ∧ Kept (fun _ => False) w w' :=
  (pof1 _ _ _ 16 w.heap.size _ (Blk.new w _ _).lt ((Blk.new w _ _).cell 0)).mono (fun e w2 h => ⟨h.1, ((Kept.refl _ w).alloc _).trans h.2 (fun _ _ h => h)⟩)
theorem pk28 (w : World) (t : TypeId) : Calls Try.prog 93 #[.string ⟨#[105, 116, 101, 114, 95, 100, 114, 111, 112]⟩, .int .i64 0, .int .i64 0, .slice (some ⟨w.heap.size, 0, none⟩) 1 1] (w.alloc (.cells #[.int .i64 16] t)) fun e w' => e = .returned (.agg (prB 28)) ∧ Kept (fun _ => False) w w' :=
  (pof1 _ _ _ 16 w.heap.size _ (Blk.new w _ _).lt ((Blk.new w _ _).cell 0)).mono (fun e w2 h => ⟨h.1, ((Kept.refl _ w).alloc _).trans h.2 (fun _ _ h => h)⟩)
theorem pa28 (w : World) : Calls Try.prog 95 #[.agg (prB 28)] w fun e w' => e = .returned (.agg (prL 28)) ∧ Kept (fun _ => False) w w' := prel _ _ _ _ _ _ _ _ _ _ w
theorem pk1n (w : World) (t : TypeId) (n : Nat) (hn : n = w.heap.size) : Calls Try.prog 93 #[.string ⟨#[109, 97, 112, 95, 108, 111, 111, 107, 117, 112]⟩, .int .i64 1, .int .i64 6, .slice (some ⟨n, 0, none⟩) 2 2] (w.alloc (.cells #[.int .i64 2, .int .i64 3] t)) fun e w' => e = .returned (.agg (prB 1)) ∧ Kept (fun _ => False) w w' := by
  subst hn
  exact pk1 w t
set_option maxHeartbeats 16000000 in
set_option maxRecDepth 100000 in
theorem ptable_any (w : World) : Calls Try.prog 80 #[] w fun e w' => e = .returned (.agg tabV) ∧ Kept (fun _ => False) w w' := by
  have HT := Lib.hid tab_build
  go_enter Try.func80, Try.ntmps80
  go_wp2_with fail
  refine (pk1n _ _ _ (by show _ = (Array.push _ _).size; rw [Array.size_push])).mono ?_
  rintro e w2 ⟨rfl, hk⟩
  have HK : Kept (fun _ => False) w w2 := ((Kept.refl _ w).alloc _).trans hk (fun _ _ h => h)
  have HZ := Lib.hid (⟨_, rfl, hk.blk (fun h => h) (Blk.new w _ _)⟩ : ∃ old : Array Value, old.size = 290 ∧ Blk w2 w.heap.size 101 old)
  clear hk
  go_wp2_with fail
  refine (pk2 _ _).mono ?_
  rintro e w2 ⟨rfl, hk⟩
  replace HK := HK.trans hk (fun _ _ h => h); replace HZ := Lib.hid (show ∃ old : Array Value, old.size = 290 ∧ Blk w2 w.heap.size 101 old from HZ.out.imp fun old h => ⟨h.1, hk.blk (fun h => h) h.2⟩); clear hk
  go_wp2_with fail
  refine (pk3 _ _).mono ?_
  rintro e w2 ⟨rfl, hk⟩
  replace HK := HK.trans hk (fun _ _ h => h); replace HZ := Lib.hid (show ∃ old : Array Value, old.size = 290 ∧ Blk w2 w.heap.size 101 old from HZ.out.imp fun old h => ⟨h.1, hk.blk (fun h => h) h.2⟩); clear hk
  go_wp2_with fail
  refine (pk4 _).mono ?_
  rintro e w2 ⟨rfl, hk⟩
  replace HK := HK.trans hk (fun _ _ h => h); replace HZ := Lib.hid (show ∃ old : Array Value, old.size = 290 ∧ Blk w2 w.heap.size 101 old from HZ.out.imp fun old h => ⟨h.1, hk.blk (fun h => h) h.2⟩); clear hk
  go_wp2_with fail
  refine (pk5 _).mono ?_
  rintro e w2 ⟨rfl, hk⟩
  replace HK := HK.trans hk (fun _ _ h => h); replace HZ := Lib.hid (show ∃ old : Array Value, old.size = 290 ∧ Blk w2 w.heap.size 101 old from HZ.out.imp fun old h => ⟨h.1, hk.blk (fun h => h) h.2⟩); clear hk
  go_wp2_with fail
  refine (pk6 _ _).mono ?_
  rintro e w2 ⟨rfl, hk⟩
  replace HK := HK.trans hk (fun _ _ h => h); replace HZ := Lib.hid (show ∃ old : Array Value, old.size = 290 ∧ Blk w2 w.heap.size 101 old from HZ.out.imp fun old h => ⟨h.1, hk.blk (fun h => h) h.2⟩); clear hk
  go_wp2_with fail
  refine (pk7 _ _).mono ?_
  rintro e w2 ⟨rfl, hk⟩
  replace HK := HK.trans hk (fun _ _ h => h); replace HZ := Lib.hid (show ∃ old : Array Value, old.size = 290 ∧ Blk w2 w.heap.size 101 old from HZ.out.imp fun old h => ⟨h.1, hk.blk (fun h => h) h.2⟩); clear hk
  go_wp2_with fail
  refine (pk8 _ _).mono ?_
  rintro e w2 ⟨rfl, hk⟩
  replace HK := HK.trans hk (fun _ _ h => h); replace HZ := Lib.hid (show ∃ old : Array Value, old.size = 290 ∧ Blk w2 w.heap.size 101 old from HZ.out.imp fun old h => ⟨h.1, hk.blk (fun h => h) h.2⟩); clear hk
  go_wp2_with fail
  refine (pk9 _ _).mono ?_
  rintro e w2 ⟨rfl, hk⟩
  replace HK := HK.trans hk (fun _ _ h => h); replace HZ := Lib.hid (show ∃ old : Array Value, old.size = 290 ∧ Blk w2 w.heap.size 101 old from HZ.out.imp fun old h => ⟨h.1, hk.blk (fun h => h) h.2⟩); clear hk
  go_wp2_with fail
  refine (pa9 _).mono ?_
  rintro e w2 ⟨rfl, hk⟩
  replace HK := HK.trans hk (fun _ _ h => h); replace HZ := Lib.hid (show ∃ old : Array Value, old.size = 290 ∧ Blk w2 w.heap.size 101 old from HZ.out.imp fun old h => ⟨h.1, hk.blk (fun h => h) h.2⟩); clear hk
  go_wp2_with fail
  refine (pk10 _ _).mono ?_
  rintro e w2 ⟨rfl, hk⟩
  replace HK := HK.trans hk (fun _ _ h => h); replace HZ := Lib.hid (show ∃ old : Array Value, old.size = 290 ∧ Blk w2 w.heap.size 101 old from HZ.out.imp fun old h => ⟨h.1, hk.blk (fun h => h) h.2⟩); clear hk
  go_wp2_with fail
  refine (pa10 _).mono ?_
  rintro e w2 ⟨rfl, hk⟩
  replace HK := HK.trans hk (fun _ _ h => h); replace HZ := Lib.hid (show ∃ old : Array Value, old.size = 290 ∧ Blk w2 w.heap.size 101 old from HZ.out.imp fun old h => ⟨h.1, hk.blk (fun h => h) h.2⟩); clear hk
  go_wp2_with fail
  refine (pk11 _ _).mono ?_
  rintro e w2 ⟨rfl, hk⟩
  replace HK := HK.trans hk (fun _ _ h => h); replace HZ := Lib.hid (show ∃ old : Array Value, old.size = 290 ∧ Blk w2 w.heap.size 101 old from HZ.out.imp fun old h => ⟨h.1, hk.blk (fun h => h) h.2⟩); clear hk
  go_wp2_with fail
  refine (pa11 _).mono ?_
  rintro e w2 ⟨rfl, hk⟩
  replace HK := HK.trans hk (fun _ _ h => h); replace HZ := Lib.hid (show ∃ old : Array Value, old.size = 290 ∧ Blk w2 w.heap.size 101 old from HZ.out.imp fun old h => ⟨h.1, hk.blk (fun h => h) h.2⟩); clear hk
  go_wp2_with fail
  refine (pk12 _ _).mono ?_
  rintro e w2 ⟨rfl, hk⟩
  replace HK := HK.trans hk (fun _ _ h => h); replace HZ := Lib.hid (show ∃ old : Array Value, old.size = 290 ∧ Blk w2 w.heap.size 101 old from HZ.out.imp fun old h => ⟨h.1, hk.blk (fun h => h) h.2⟩); clear hk
  go_wp2_with fail
  refine (pk13 _ _).mono ?_
  rintro e w2 ⟨rfl, hk⟩
  replace HK := HK.trans hk (fun _ _ h => h); replace HZ := Lib.hid (show ∃ old : Array Value, old.size = 290 ∧ Blk w2 w.heap.size 101 old from HZ.out.imp fun old h => ⟨h.1, hk.blk (fun h => h) h.2⟩); clear hk
  go_wp2_with fail
  refine (pa13 _).mono ?_
  rintro e w2 ⟨rfl, hk⟩
  replace HK := HK.trans hk (fun _ _ h => h); replace HZ := Lib.hid (show ∃ old : Array Value, old.size = 290 ∧ Blk w2 w.heap.size 101 old from HZ.out.imp fun old h => ⟨h.1, hk.blk (fun h => h) h.2⟩); clear hk
  go_wp2_with fail
  refine (pk14 _ _).mono ?_
  rintro e w2 ⟨rfl, hk⟩
  replace HK := HK.trans hk (fun _ _ h => h); replace HZ := Lib.hid (show ∃ old : Array Value, old.size = 290 ∧ Blk w2 w.heap.size 101 old from HZ.out.imp fun old h => ⟨h.1, hk.blk (fun h => h) h.2⟩); clear hk
  go_wp2_with fail
  refine (pa14 _).mono ?_
  rintro e w2 ⟨rfl, hk⟩
  replace HK := HK.trans hk (fun _ _ h => h); replace HZ := Lib.hid (show ∃ old : Array Value, old.size = 290 ∧ Blk w2 w.heap.size 101 old from HZ.out.imp fun old h => ⟨h.1, hk.blk (fun h => h) h.2⟩); clear hk
  go_wp2_with fail
  refine (pk15 _ _).mono ?_
  rintro e w2 ⟨rfl, hk⟩
  replace HK := HK.trans hk (fun _ _ h => h); replace HZ := Lib.hid (show ∃ old : Array Value, old.size = 290 ∧ Blk w2 w.heap.size 101 old from HZ.out.imp fun old h => ⟨h.1, hk.blk (fun h => h) h.2⟩); clear hk
  go_wp2_with fail
  refine (pk16 _ _).mono ?_
  rintro e w2 ⟨rfl, hk⟩
  replace HK := HK.trans hk (fun _ _ h => h); replace HZ := Lib.hid (show ∃ old : Array Value, old.size = 290 ∧ Blk w2 w.heap.size 101 old from HZ.out.imp fun old h => ⟨h.1, hk.blk (fun h => h) h.2⟩); clear hk
  go_wp2_with fail
  refine (pk17 _ _).mono ?_
  rintro e w2 ⟨rfl, hk⟩
  replace HK := HK.trans hk (fun _ _ h => h); replace HZ := Lib.hid (show ∃ old : Array Value, old.size = 290 ∧ Blk w2 w.heap.size 101 old from HZ.out.imp fun old h => ⟨h.1, hk.blk (fun h => h) h.2⟩); clear hk
  go_wp2_with fail
  refine (pk18 _ _).mono ?_
  rintro e w2 ⟨rfl, hk⟩
  replace HK := HK.trans hk (fun _ _ h => h); replace HZ := Lib.hid (show ∃ old : Array Value, old.size = 290 ∧ Blk w2 w.heap.size 101 old from HZ.out.imp fun old h => ⟨h.1, hk.blk (fun h => h) h.2⟩); clear hk
  go_wp2_with fail
  refine (pk19 _ _).mono ?_
  rintro e w2 ⟨rfl, hk⟩
  replace HK := HK.trans hk (fun _ _ h => h); replace HZ := Lib.hid (show ∃ old : Array Value, old.size = 290 ∧ Blk w2 w.heap.size 101 old from HZ.out.imp fun old h => ⟨h.1, hk.blk (fun h => h) h.2⟩); clear hk
  go_wp2_with fail
  refine (pa19 _).mono ?_
  rintro e w2 ⟨rfl, hk⟩
  replace HK := HK.trans hk (fun _ _ h => h); replace HZ := Lib.hid (show ∃ old : Array Value, old.size = 290 ∧ Blk w2 w.heap.size 101 old from HZ.out.imp fun old h => ⟨h.1, hk.blk (fun h => h) h.2⟩); clear hk
  go_wp2_with fail
  refine (pk20 _ _).mono ?_
  rintro e w2 ⟨rfl, hk⟩
  replace HK := HK.trans hk (fun _ _ h => h); replace HZ := Lib.hid (show ∃ old : Array Value, old.size = 290 ∧ Blk w2 w.heap.size 101 old from HZ.out.imp fun old h => ⟨h.1, hk.blk (fun h => h) h.2⟩); clear hk
  go_wp2_with fail
  refine (pa20 _).mono ?_
  rintro e w2 ⟨rfl, hk⟩
  replace HK := HK.trans hk (fun _ _ h => h); replace HZ := Lib.hid (show ∃ old : Array Value, old.size = 290 ∧ Blk w2 w.heap.size 101 old from HZ.out.imp fun old h => ⟨h.1, hk.blk (fun h => h) h.2⟩); clear hk
  go_wp2_with fail
  refine (pk21 _ _).mono ?_
  rintro e w2 ⟨rfl, hk⟩
  replace HK := HK.trans hk (fun _ _ h => h); replace HZ := Lib.hid (show ∃ old : Array Value, old.size = 290 ∧ Blk w2 w.heap.size 101 old from HZ.out.imp fun old h => ⟨h.1, hk.blk (fun h => h) h.2⟩); clear hk
  go_wp2_with fail
  refine (pa21 _).mono ?_
  rintro e w2 ⟨rfl, hk⟩
  replace HK := HK.trans hk (fun _ _ h => h); replace HZ := Lib.hid (show ∃ old : Array Value, old.size = 290 ∧ Blk w2 w.heap.size 101 old from HZ.out.imp fun old h => ⟨h.1, hk.blk (fun h => h) h.2⟩); clear hk
  go_wp2_with fail
  refine (pk22 _ _).mono ?_
  rintro e w2 ⟨rfl, hk⟩
  replace HK := HK.trans hk (fun _ _ h => h); replace HZ := Lib.hid (show ∃ old : Array Value, old.size = 290 ∧ Blk w2 w.heap.size 101 old from HZ.out.imp fun old h => ⟨h.1, hk.blk (fun h => h) h.2⟩); clear hk
  go_wp2_with fail
  refine (pk23 _ _).mono ?_
  rintro e w2 ⟨rfl, hk⟩
  replace HK := HK.trans hk (fun _ _ h => h); replace HZ := Lib.hid (show ∃ old : Array Value, old.size = 290 ∧ Blk w2 w.heap.size 101 old from HZ.out.imp fun old h => ⟨h.1, hk.blk (fun h => h) h.2⟩); clear hk
  go_wp2_with fail
  refine (pk24 _ _).mono ?_
  rintro e w2 ⟨rfl, hk⟩
  replace HK := HK.trans hk (fun _ _ h => h); replace HZ := Lib.hid (show ∃ old : Array Value, old.size = 290 ∧ Blk w2 w.heap.size 101 old from HZ.out.imp fun old h => ⟨h.1, hk.blk (fun h => h) h.2⟩); clear hk
  go_wp2_with fail
  refine (pk25 _ _).mono ?_
  rintro e w2 ⟨rfl, hk⟩
  replace HK := HK.trans hk (fun _ _ h => h); replace HZ := Lib.hid (show ∃ old : Array Value, old.size = 290 ∧ Blk w2 w.heap.size 101 old from HZ.out.imp fun old h => ⟨h.1, hk.blk (fun h => h) h.2⟩); clear hk
  go_wp2_with fail
  refine (pk26 _ _).mono ?_
  rintro e w2 ⟨rfl, hk⟩
  replace HK := HK.trans hk (fun _ _ h => h); replace HZ := Lib.hid (show ∃ old : Array Value, old.size = 290 ∧ Blk w2 w.heap.size 101 old from HZ.out.imp fun old h => ⟨h.1, hk.blk (fun h => h) h.2⟩); clear hk
  go_wp2_with fail
  refine (pa26 _).mono ?_
  rintro e w2 ⟨rfl, hk⟩
  replace HK := HK.trans hk (fun _ _ h => h); replace HZ := Lib.hid (show ∃ old : Array Value, old.size = 290 ∧ Blk w2 w.heap.size 101 old from HZ.out.imp fun old h => ⟨h.1, hk.blk (fun h => h) h.2⟩); clear hk
  go_wp2_with fail
  refine (pk27 _ _).mono ?_
  rintro e w2 ⟨rfl, hk⟩
  replace HK := HK.trans hk (fun _ _ h => h); replace HZ := Lib.hid (show ∃ old : Array Value, old.size = 290 ∧ Blk w2 w.heap.size 101 old from HZ.out.imp fun old h => ⟨h.1, hk.blk (fun h => h) h.2⟩); clear hk
  go_wp2_with fail
  refine (pk28 _ _).mono ?_
  rintro e w2 ⟨rfl, hk⟩
  replace HK := HK.trans hk (fun _ _ h => h); replace HZ := Lib.hid (show ∃ old : Array Value, old.size = 290 ∧ Blk w2 w.heap.size 101 old from HZ.out.imp fun old h => ⟨h.1, hk.blk (fun h => h) h.2⟩); clear hk
  go_wp2_with fail
  refine (pa28 _).mono ?_
  rintro e w2 ⟨rfl, hk⟩
  replace HK := HK.trans hk (fun _ _ h => h); replace HZ := Lib.hid (show ∃ old : Array Value, old.size = 290 ∧ Blk w2 w.heap.size 101 old from HZ.out.imp fun old h => ⟨h.1, hk.blk (fun h => h) h.2⟩); clear hk
  go_wp2_with (refine wpList_buildV rfl 101 _ rfl tabParts rfl (.agg tabV) HT.out ?_)
  obtain ⟨old, hos, hbo⟩ := HZ.out
  have hsz : tabV.size = 290 := by kernel_rfl
  have hone : ∀ y ∈ tabV.toList, y.oneCell' = true := by
    have : tabV.toList.all (fun y => y.oneCell') = true := by kernel_rfl
    exact List.all_eq_true.1 this
  have hst := run_storeCells_at Try.prog w.heap.size 0 101 tabV.toList 0 old _ hbo (by rw [Array.length_toList, hsz, hos]; omega) hone
  have enew : (old.toList.take (0 + 0) ++ (tabV.toList ++ old.toList.drop (0 + 0 + tabV.toList.length))).toArray = tabV := by
    have : old.toList.drop (0 + 0 + tabV.toList.length) = [] := List.drop_eq_nil_of_le (by rw [Array.length_toList, Array.length_toList, hsz, hos]; omega)
    rw [this]
    simp
  rw [List.append_assoc, enew] at hst
  rw [hst]
  have hb3 := setRow_heap _ w.heap.size old tabV 101 (0, 0) hbo
  have hk3 : Kept (fun _ => False) w _ := HK.trans (show Kept (fun k => k = w.heap.size) _ (World.setRow _ w.heap.size tabV) from ⟨rfl, rfl, rfl, by simp, fun k _ hk => setRow_other _ w.heap.size k _ hk⟩) (fun k hk e => by have e : k = w.heap.size := e; omega)
  go_wp2_with fail
  refine bodyPost_ret (results_cell_row rfl _ _ w.heap.size _ tabV (0, 0) _ rfl hb3 Try.underlying101 rfl (by kernel_rfl)) rfl ?_
  exact ⟨rfl, hk3⟩
end Go.Proofs.Ytopdoanfpjaehaa
