import Derived.Test.YtahabogjfcdjkaaGreatDb
import Derived.Test.YtahabogjfcdjkaaGreatMp
import Derived.Test.YtahabogjfcdjkaaGreatSg
set_option linter.unusedSimpArgs false
set_option linter.unusedVariables false
namespace Go.Proofs.YtahabogjfcdjkaaGreat
open Go.RowKit

/-! ### the document's map -/
theorem run_eqlS {P : Program} (t : TypeId) (a b : List UInt8) (w : World) : (binOp .eql t (sV a) (sV b)).run P w = .ok (.bool (a == b)) w := by
  unfold sV
  rw [binOp_string_eql]
  have : ∀ l : List UInt8, (ByteArray.mk l.toArray).toList = l := fun l => by rw [Lib.toList_data]
  rw [this, this]
  rfl
theorem guardS {P : Program} (op : BinOp) (t : TypeId) (x y : Operand) (a b : List UInt8) (w : World) : (eqGuard op t x y (sV a) (sV b)).run P w = .ok () w := by
  unfold sV
  cases op <;> simp [eqGuard]
theorem mix_eqlS {P : Program} {ops : Array Oper} {C : World → Prop} {K : Act → World → Prop} {ks : List Kd} {o : Oper} {l : List Oper} {ac : Act} {w : World} (hC : C w) (hg : o.guard = none) (t t2 : TypeId) (x y : Operand) (hop : o.op = .binOp .eql t x y t2) (a b : List UInt8) (hx : ac.eval x = sV a) (hy : ac.eval y = sV b) (h : Mix P ops C K ks l (ac.put o.dst (.bool (a == b))) w) : Mix P ops C K (.l :: ks) (o :: l) ac w :=
  mix_val1 hC hg _ (fun w' _ => by simp [execOp, hop, hx, hy, guardS, run_eqlS, Result.andThen]) h
structure RLoc where
  q : Nat
  mp : Nat
  v : Value
  lv : Value
  pv : Value
def ecell (y : List UInt8 × Int) : List Value := [sV y.1, .int .i64 y.2]
theorem ecell_one (y : List UInt8 × Int) : ∀ u ∈ ecell y, u.oneCell' = true := by simp [ecell, sV, Value.oneCell']
theorem ecell_len (y : List UInt8 × Int) : (ecell y).length = 2 := rfl
def MS.rcells (S : MS) (x : RLoc) : Array Value := #[.int .i64 S.d.kind, .int .i64 S.d.key, .int .i64 S.d.value, .int .i64 S.d.entries, .bool S.d.timer, .int .i64 S.d.type, .pointer (some ⟨x.mp, 0, none⟩), x.lv, x.pv]
structure RMp (w : World) (x : RLoc) (S : MS) (L : List Rg) : Prop where
  blk : Blk w x.q 67 (S.rcells x)
  ent : Sg w 70 2 x.lv (S.ent.map ecell)
  prog : Sl w 3 1 x.pv (S.progs.map pcell)
  mem : RMem w x.mp x.v L
  dq : x.q ∉ blM x.mp x.v L
  dl : ∀ g, x.lv.ownBlock = some g → g ∉ blM x.mp x.v L ∧ g ≠ x.q
  dp : ∀ g, x.pv.ownBlock = some g → g ∉ blM x.mp x.v L ∧ g ≠ x.q ∧ x.lv.ownBlock ≠ some g
  ids : ∀ y ∈ S.ent, ∃ (i : Nat) (r : Rg), y.2 = (i : Int) + 1 ∧ L[i]? = some r ∧ (r.b.length : Int) = S.d.value
  nd : (S.ent.map (·.1)).Nodup
  few : S.ent.length ≤ 100000
  fewp : S.progs.length ≤ 100000
/-- all its blocks -/
def fpR (x : RLoc) (L : List Rg) (k : Nat) : Prop := k = x.q ∨ x.lv.ownBlock = some k ∨ x.pv.ownBlock = some k ∨ k ∈ blM x.mp x.v L
section
variable {w w' : World} {x : RLoc} {S : MS} {L : List Rg}
theorem RMp.lt (h : RMp w x S L) {k : Nat} (hk : fpR x L k) : k < w.heap.size := by
  rcases hk with rfl | hk | hk | hk
  · exact h.blk.lt
  · exact h.ent.lt k hk
  · exact h.prog.lt k hk
  · exact h.mem.lt hk
theorem RMp.kept {F : Nat → Prop} (h : RMp w x S L) (hk : Kept F w w') (hF : ∀ k, fpR x L k → ¬ F k) : RMp w' x S L :=
  ⟨hk.blk (hF _ (.inl rfl)) h.blk, h.ent.kept hk (fun g hg => hF g (.inr (.inl hg))), h.prog.kept hk (fun g hg => hF g (.inr (.inr (.inl hg)))), h.mem.kept hk (fun k hk => hF k (.inr (.inr (.inr hk)))), h.dq, h.dl, h.dp, h.ids, h.nd, h.few, h.fewp⟩
theorem RMp.quiet (h : RMp w x S L) (hk : Kept (fun _ => False) w w') : RMp w' x S L := h.kept hk (fun _ _ h => h)
theorem RMp.drew (h : RMp w x S L) : RMp w.drew x S L := h.quiet (Kept.drew (Kept.refl _ w))
/-- the memory goes on -/
theorem RMp.memory {v' : Value} {L' : List Rg} (h : RMp w x S L) (hk : Kept (fun k => k ∈ blM x.mp x.v L) w w') (hm : RMem w' x.mp v' L') (hb : ∀ k ∈ blM x.mp v' L', k ∈ blM x.mp x.v L ∨ w.heap.size ≤ k) (hl : ∀ (i : Nat) (r : Rg), L[i]? = some r → ∃ r', L'[i]? = some r' ∧ r'.b.length = r.b.length) :
    RMp w' { x with v := v' } S L' :=
  ⟨hk.blk h.dq h.blk, h.ent.kept hk (fun g hg => (h.dl g hg).1), h.prog.kept hk (fun g hg => (h.dp g hg).1), hm, fun e => by
    rcases hb _ e with e | e
    · exact h.dq e
    · exact absurd h.blk.lt (Nat.not_lt.2 e), fun g hg => ⟨fun e => by
    rcases hb _ e with e | e
    · exact (h.dl g hg).1 e
    · have := h.ent.lt g hg; omega, (h.dl g hg).2⟩, fun g hg => ⟨fun e => by
    rcases hb _ e with e | e
    · exact (h.dp g hg).1 e
    · have := h.prog.lt g hg; omega, (h.dp g hg).2⟩, fun y hy => by
    obtain ⟨i, r, h1, h2, h3⟩ := h.ids y hy
    obtain ⟨r', h4, h5⟩ := hl i r h2
    exact ⟨i, r', h1, h4, by rw [h5]; exact h3⟩, h.nd, h.few, h.fewp⟩
theorem RMp.eCell (h : RMp w x S L) {g n c : Nat} (hv : x.lv = .slice (some ⟨g, 0, none⟩) n c) {i : Nat} {y : List UInt8 × Int} (hi : S.ent[i]? = some y) : w.cell? ⟨g, i * 2, none⟩ = some (sV y.1) ∧ w.cell? ⟨g, i * 2 + 1, none⟩ = some (.int .i64 y.2) := by
  have he := h.ent
  rw [hv] at he
  have c0 := Sg.cell he (i := i) (c := ecell y) (by rw [List.getElem?_map, hi]; rfl) (k := 0) (by omega)
  have c1 := Sg.cell he (i := i) (c := ecell y) (by rw [List.getElem?_map, hi]; rfl) (k := 1) (by omega)
  exact ⟨by simpa [ecell] using c0, by simpa [ecell] using c1⟩
end
set_option maxHeartbeats 400000 in
theorem rasked_len (x : RLoc) (S : MS) (L : List Rg) (A : Option Addr) (n c : Nat) (w : World) (h : RMp w x S L) :
    Calls Tryz.prog 55 #[.pointer (some ⟨x.q, 0, none⟩), .slice A n c] w fun e w' => e = .returned (.int .i64 (asksC S.d n)) ∧ w = w' := by
  have hb := h.blk.cell
  simp only [MS.rcells] at hb
  unfold asksC
  by_cases h3 : S.d.kind = 3
  · rw [h3] at hb
    rw [if_pos h3]
    clear h3
    go_enter Tryz.func55, Tryz.ntmps55
    go_wp2
    go_ret
    exact ⟨rfl, rfl⟩
  · rw [if_neg h3]
    have e3 : (S.d.kind == 3) = false := by simpa using h3
    clear h3
    by_cases h4 : (n : Int) = S.d.key
    · rw [if_pos h4]
      have e4 : ((n : Int) != S.d.key) = false := by simpa using h4
      clear h4
      go_enter Tryz.func55, Tryz.ntmps55
      go_wp2
      go_ret
      exact ⟨rfl, rfl⟩
    · rw [if_neg h4]
      have e4 : ((n : Int) != S.d.key) = true := by simpa using h4
      clear h4
      go_enter Tryz.func55, Tryz.ntmps55
      go_wp2
      go_ret
      exact ⟨rfl, rfl⟩
/-- where a key stands: its place, or -1 -/
def FoundI (E : List (List UInt8 × Int)) (k : List UInt8) (a : Int) : Prop := (a = -1 ∧ lookS E k = none) ∨ ∃ (j : Nat) (y : List UInt8 × Int), a = (j : Int) ∧ E[j]? = some y ∧ y.1 = k ∧ lookS E k = some y.2 ∧ ∀ i z, i < j → E[i]? = some z → z.1 ≠ k
theorem lookS_no {α : Type} {k : List UInt8} : ∀ {l : List (List UInt8 × α)}, (∀ y ∈ l, y.1 ≠ k) → lookS l k = none
  | [], _ => rfl
  | (a, b) :: l, h => by
    simp only [lookS]
    rw [if_neg (h _ (List.mem_cons_self ..))]
    exact lookS_no fun y hy => h y (List.mem_cons_of_mem _ hy)
theorem lookS_at {α : Type} {k : List UInt8} : ∀ {l : List (List UInt8 × α)} {j : Nat} {y : List UInt8 × α}, l[j]? = some y → y.1 = k → (∀ i z, i < j → l[i]? = some z → z.1 ≠ k) → lookS l k = some y.2
  | [], _, _, h, _, _ => by cases h
  | (a, b) :: l, 0, y, h, e, _ => by
    simp only [List.getElem?_cons_zero, Option.some.injEq] at h
    subst h
    simp only [lookS]
    rw [if_pos e]
  | (a, b) :: l, j + 1, y, h, e, hn => by
    simp only [lookS]
    rw [if_neg (hn 0 (a, b) (by omega) rfl)]
    exact lookS_at (by simpa using h) e fun i z hi hz => hn (i + 1) z (by omega) (by simpa using hz)
set_option maxHeartbeats 2000000 in
set_option maxRecDepth 100000 in
theorem rat_any (x : RLoc) (S : MS) (L : List Rg) (kv : Value) (k : List UInt8) (w : World) (h : RMp w x S L) (hk : By w kv k) :
    Calls Tryz.prog 56 #[.pointer (some ⟨x.q, 0, none⟩), kv] w fun e w' => ∃ a : Int, e = .returned (.int .i64 a) ∧ FoundI S.ent k a ∧ Kept (fun _ => False) w w' := by
  have HH := Lib.hid h
  have HKB := Lib.hid hk
  have hfew := h.few
  clear h hk
  go_enter Tryz.func56, Tryz.ntmps56
  go_wp2_with fail
  go_loopw [5] (fun iv wr => ∃ i : Nat, iv = .int .i64 i ∧ i ≤ S.ent.length ∧ (∀ j z, j < i → S.ent[j]? = some z → z.1 ≠ k) ∧ Kept (fun _ => False) w wr) (fun iv _ => S.ent.length - (intOf iv).toNat)
  case atStart => exact ⟨0, rfl, by omega, fun j z hj => absurd hj (Nat.not_lt_zero _), Kept.refl _ w⟩
  case round =>
  obtain ⟨i, rfl, hi, hno, hkk⟩ := hrel
  have HNO := Lib.hid hno
  have HK := Lib.hid hkk
  have hM := HH.out.quiet hkk
  have hB := HKB.out.kept hkk (fun _ _ h => h)
  have hb := hM.blk.cell
  simp only [MS.rcells] at hb
  obtain ⟨lA, lC, hlv⟩ := Sg.any hM.ent
  rw [List.length_map] at hlv
  clear hno hkk
  by_cases hlt : i < S.ent.length
  case neg =>
    have hdl : decide ((i : Int) < S.ent.length) = false := decide_eq_false (by omega)
    rw [hlv] at hb
    clear hM hB
    go_wp2_with fail
    refine bodyPost_ret (v := .int .i64 (-1)) (by simp [results, Tryz.results56, go_sem]) rfl ?_
    exact ⟨-1, rfl, .inl ⟨rfl, lookS_no fun y hy => by
      obtain ⟨j, hj⟩ := List.mem_iff_getElem?.1 hy
      exact HNO.out j y (by have := (List.getElem?_eq_some_iff.1 hj).1; omega) hj⟩, HK.out⟩
  case pos =>
  have hdl : decide ((i : Int) < S.ent.length) = true := decide_eq_true (by omega)
  obtain ⟨y, hy⟩ : ∃ y, S.ent[i]? = some y := ⟨_, List.getElem?_eq_getElem hlt⟩
  obtain ⟨g, cap, hv, hcap, hgl⟩ := Sg.some_ hM.ent (by rw [List.length_map]; omega)
  rw [List.length_map] at hv
  rw [hv] at hb
  obtain ⟨e0, e1⟩ := hM.eCell hv hy
  have hcv : (convert 39 9 kv).run Tryz.prog wr = .ok (sV k) wr := hB.conv Tryz.underlying39 Tryz.underlying5 Tryz.underlying9
  have hcv2 : (convert 39 9 kv).run Tryz.prog wr.drew = .ok (sV k) wr.drew := hB.drew.conv Tryz.underlying39 Tryz.underlying5 Tryz.underlying9
  have heq := run_eqlS (P := Tryz.prog) 9 y.1 k
  have HY := Lib.hid hy
  clear hM hB hlv hy
  obtain ⟨yk, hyk⟩ : ∃ z, y.1 = z := ⟨_, rfl⟩
  have HYK := Lib.hid hyk
  rw [hyk] at e0 heq
  clear hyk
  by_cases hyk : yk = k
  · have hbe : (yk == k) = true := by rw [hyk]; simp
    have HBE := Lib.hid hbe
    have HE := Lib.hid hyk
    clear hbe heq hyk
    go_wp2_with fail
    refine wp_region_mix0 [.w, .w, .w, .l, .w, .w, .w, .l, .w, .l, .l] (by kernel_rfl) (by kernel_rfl) ?_
    repeat (first
      | (refine mix_w1 ?_; go_big_quiet_step (fail); refine wpQuiet_nil ?_)
      | (refine mix_l1 rfl ?_; go_big_quiet_step (fail); refine wpQuiet_nil ?_))
    refine mix_eqlS rfl rfl 9 9 (.tmp 22) (.tmp 24) rfl yk k rfl rfl ?_
    simp only [Act.put, List.setIfInBounds_toArray, List.set_cons_succ, List.set_cons_zero]
    rw [HBE.out]
    refine mix_nil ?_
    go_wp2_with fail
    go_ret
    exact ⟨i, rfl, .inr ⟨i, y, rfl, HY.out, HYK.out.trans HE.out, lookS_at HY.out (HYK.out.trans HE.out) HNO.out, HNO.out⟩, HK.out.drew⟩
  · have hbe : (yk == k) = false := by simpa using hyk
    have HBE := Lib.hid hbe
    have HNE := Lib.hid hyk
    clear hbe heq hyk
    go_wp2_with fail
    refine wp_region_mix0 [.w, .w, .w, .l, .w, .w, .w, .l, .w, .l, .l] (by kernel_rfl) (by kernel_rfl) ?_
    repeat (first
      | (refine mix_w1 ?_; go_big_quiet_step (fail); refine wpQuiet_nil ?_)
      | (refine mix_l1 rfl ?_; go_big_quiet_step (fail); refine wpQuiet_nil ?_))
    refine mix_eqlS rfl rfl 9 9 (.tmp 22) (.tmp 24) rfl yk k rfl rfl ?_
    simp only [Act.put, List.setIfInBounds_toArray, List.set_cons_succ, List.set_cons_zero]
    rw [HBE.out]
    refine mix_nil ?_
    go_wp2_with fail
    go_roundw
    case rel => exact ⟨i + 1, by simp, by omega, fun j z hj hz => by
      by_cases e : j = i
      · subst e
        rw [HY.out] at hz
        cases hz
        rw [HYK.out]
        exact HNE.out
      · exact HNO.out j z (by omega) hz, HK.out.drew⟩
    case measure => (simp [intOf]; omega)

end Go.Proofs.YtahabogjfcdjkaaGreat
