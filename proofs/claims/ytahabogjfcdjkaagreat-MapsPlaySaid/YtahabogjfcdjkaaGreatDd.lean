import Derived.Test.YtahabogjfcdjkaaGreatDc
import Derived.Test.YtahabogjfcdjkaaGreatMv
set_option linter.unusedSimpArgs false
set_option linter.unusedVariables false
namespace Go.Proofs.YtahabogjfcdjkaaGreat
open Go.RowKit

/-! ### the document's map: Lookup, Value, Set, Prog -/
set_option maxHeartbeats 1000000 in
theorem rlookup_len (x : RLoc) (S : MS) (L : List Rg) (A : Option Addr) (n c : Nat) (w : World) (h : RMp w x S L) (ha : asksC S.d n ≠ 0) :
    Calls Tryz.prog 34 #[.pointer (some ⟨x.q, 0, none⟩), .slice A n c] w fun e w' => e = .returned (.tuple #[.int .i64 0, .bool false, .int .i64 (asksC S.d n)]) ∧ w = w' := by
  have HA := Lib.hid (rasked_len x S L A n c w h)
  have hne : (asksC S.d n != 0) = true := by simpa using ha
  generalize asksC S.d n = c0 at *
  clear ha h
  go_enter Tryz.func34, Tryz.ntmps34
  go_wp2_with (go_at_call 55; refine HA.out.mono ?_; rintro e w1 ⟨rfl, rfl⟩)
  go_ret3
  exact ⟨rfl, rfl⟩
set_option maxHeartbeats 2000000 in
theorem rlookup_ok (x : RLoc) (S : MS) (L : List Rg) (kv : Value) (k : List UInt8) (w : World) (h : RMp w x S L) (hk : By w kv k) (ha : asksC S.d k.length = 0) :
    Calls Tryz.prog 34 #[.pointer (some ⟨x.q, 0, none⟩), kv] w fun e w' => e = .returned (.tuple #[.int .i64 ((lookS S.ent k).getD 0), .bool (lookS S.ent k).isSome, .int .i64 0]) ∧ Kept (fun _ => False) w w' := by
  obtain ⟨A, c, rfl⟩ := hk.any
  have hA := rasked_len x S L A k.length c w h
  rw [ha] at hA
  have HA := Lib.hid hA
  have HAT := Lib.hid (rat_any x S L _ k w h hk)
  have HH := Lib.hid h
  obtain ⟨lk, hlk⟩ : ∃ lk, lookS S.ent k = lk := ⟨_, rfl⟩
  rw [hlk]
  have HLK := Lib.hid hlk
  clear hA ha h hk hlk
  go_enter Tryz.func34, Tryz.ntmps34
  go_wp2_with (go_at_call 55; refine HA.out.mono ?_; rintro e w1 ⟨rfl, rfl⟩)
  refine HAT.out.mono ?_
  rintro e w2 ⟨a, rfl, hF, hk2⟩
  have hM := HH.out.quiet hk2
  have hb := hM.blk.cell
  simp only [MS.rcells] at hb
  rcases hF with ⟨rfl, hn⟩ | ⟨j, y, rfl, hj, -, hs, -⟩
  · obtain rfl : lk = none := HLK.out.symm.trans hn
    clear hM hn
    go_wp2_with fail
    go_ret3
    exact ⟨rfl, hk2⟩
  · obtain rfl : lk = some y.2 := HLK.out.symm.trans hs
    obtain ⟨g, cap, hv, hcap, hgl⟩ := Sg.some_ hM.ent (by rw [List.length_map]; have := (List.getElem?_eq_some_iff.1 hj).1; omega)
    rw [List.length_map] at hv
    obtain ⟨e0, e1⟩ := hM.eCell hv hj
    have hjl := (List.getElem?_eq_some_iff.1 hj).1
    have hjd : decide ((j : Int) < 0) = false := decide_eq_false (by omega)
    rw [hv] at hb
    clear hM hv e0 hs
    go_wp2_with fail
    go_ret3
    exact ⟨rfl, hk2⟩
set_option maxHeartbeats 1000000 in
theorem rvalue_len (x : RLoc) (S : MS) (L : List Rg) (A : Option Addr) (n c : Nat) (w : World) (h : RMp w x S L) (ha : asksC S.d n ≠ 0) :
    Calls Tryz.prog 35 #[.pointer (some ⟨x.q, 0, none⟩), .slice A n c] w fun e w' => e = .returned (.tuple #[.slice none 0 0, .int .i64 (asksC S.d n)]) ∧ w = w' := by
  have HLK := Lib.hid (rlookup_len x S L A n c w h ha)
  have hne : (asksC S.d n != 0) = true := by simpa using ha
  have hne2 : (asksC S.d n == 0) = false := by simpa using ha
  generalize asksC S.d n = c0 at *
  clear ha h
  go_enter Tryz.func35, Tryz.ntmps35
  go_wp2_with (go_at_call 34; refine HLK.out.mono ?_; rintro e w1 ⟨rfl, rfl⟩)
  go_ret2
  exact ⟨rfl, rfl⟩
set_option maxHeartbeats 1000000 in
theorem rvalue_none (x : RLoc) (S : MS) (L : List Rg) (kv : Value) (k : List UInt8) (w : World) (h : RMp w x S L) (hk : By w kv k) (ha : asksC S.d k.length = 0) (hl : lookS S.ent k = none) :
    Calls Tryz.prog 35 #[.pointer (some ⟨x.q, 0, none⟩), kv] w fun e w' => e = .returned (.tuple #[.slice none 0 0, .int .i64 92]) ∧ Kept (fun _ => False) w w' := by
  have hlk := rlookup_ok x S L kv k w h hk ha
  rw [hl] at hlk
  simp only [Option.getD_none, Option.isSome_none] at hlk
  have HLK := Lib.hid hlk
  clear hlk hl ha h hk
  go_enter Tryz.func35, Tryz.ntmps35
  go_wp2_with (go_at_call 34; refine HLK.out.mono ?_; rintro e w1 ⟨rfl, hk1⟩)
  go_ret2
  exact ⟨rfl, hk1⟩
set_option maxHeartbeats 1000000 in
theorem rvalue_has (x : RLoc) (S : MS) (L : List Rg) (kv : Value) (k : List UInt8) (w : World) (h : RMp w x S L) (hk : By w kv k) (ha : asksC S.d k.length = 0) {i : Nat} {r : Rg} (hl : lookS S.ent k = some ((i : Int) + 1)) (hi : L[i]? = some r) :
    Calls Tryz.prog 35 #[.pointer (some ⟨x.q, 0, none⟩), kv] w fun e w' => ∃ ov, e = .returned (.tuple #[ov, .int .i64 0]) ∧ Bs w' ov r.b ∧ (∀ g, ov.ownBlock = some g → w.heap.size ≤ g) ∧ Kept (fun _ => False) w w' := by
  obtain ⟨u0, hU0, hU1, hU2, hU3⟩ := info_parts infoU8
  have hlk := rlookup_ok x S L kv k w h hk ha
  rw [hl] at hlk
  simp only [Option.getD_some, Option.isSome_some] at hlk
  have HLK := Lib.hid hlk
  have HI := Lib.hid hi
  have HH := Lib.hid h
  clear hlk hi hl ha h hk
  go_enter Tryz.func35, Tryz.ntmps35
  go_wp2_with (go_at_call 34; refine HLK.out.mono ?_; rintro e w1 ⟨rfl, hk1⟩; have hM := HH.out.quiet hk1; have hb := hM.blk.cell; simp only [MS.rcells] at hb)
  refine (rbytes_in x.mp x.v L i _ hM.mem HI.out).mono ?_
  rintro e w2 ⟨rfl, rfl⟩
  have hrr := (hM.mem.rg r (List.mem_of_getElem? HI.out)).2
  have hby := hrr.1.by_
  have hs1 := hk1.size
  have hl6 := hrr.2
  clear hM hb
  go_wp2_with (at_builtin; refine wpList_appendBy (w := w1) rfl (.const (.slice none 0 0)) (.tmp 36) 39 rfl Tryz.underlying39 hU0 hU1 hU2 hU3 rfl (.slice none 0 0) r.bv [] r.b rfl rfl (Sl.nil _ _ _) hby (by simp; omega) ?_; intro cv w3 hO1' hk3' hv3 _)
  go_ret2
  refine ⟨cv, rfl, by simpa using hO1', fun g hg => ?_, hk1.trans hk3' (fun _ _ e => by simp [Value.ownBlock] at e)⟩
  rcases hv3 g hg with e | e
  · simp [Value.ownBlock] at e
  · omega
/-- Set: what is told -/
def setC (S : MS) (i p : Int) : Int := if S.d.kind ≠ 3 then 95 else if i < 0 ∨ (S.progs.length : Int) ≤ i ∨ p < -1 then 91 else 0
def setS (S : MS) (i p : Int) : MS := if setC S i p = 0 then { S with progs := S.progs.set i.toNat p } else S
theorem RMp.setP {w : World} {x : RLoc} {S : MS} {L : List Rg} (h : RMp w x S L) {i : Nat} (hi : i < S.progs.length) (p : Int) {g n c : Nat} (hv : x.pv = .slice (some ⟨g, 0, none⟩) n c) : RMp (w.setCell ⟨g, i, none⟩ (.int .i64 p)) x { S with progs := S.progs.set i p } L := by
  have hk : Kept (fun k => k = g) w (w.setCell ⟨g, i, none⟩ (.int .i64 p)) := Kept.setCell (F := fun k => k = g) (Kept.refl _ w) (fun _ => rfl) _
  have hg : x.pv.ownBlock = some g := by rw [hv]; rfl
  obtain ⟨d1, d2, d3⟩ := h.dp g hg
  refine ⟨hk.blk (fun e => d2 e.symm) h.blk, h.ent.kept hk (fun k hk e => d3 (by rw [hk, e])), ?_, h.mem.kept hk (fun k hk e => d1 (by rw [← e]; exact hk)), h.dq, h.dl, h.dp, h.ids, h.nd, h.few, by simpa using h.fewp⟩
  have hp := h.prog
  rw [hv] at hp ⊢
  have := Sl.setCell hp (i := i) (c := pcell S.progs[i]) (by rw [List.getElem?_map, List.getElem?_eq_getElem hi]; rfl) (k := 0) (by omega) (.int .i64 p)
  simp only [pcell, List.set_cons_zero, Nat.mul_one, Nat.add_zero] at this
  show Sl _ _ _ _ ((S.progs.set i p).map pcell)
  rw [List.map_set]
  exact this
set_option maxHeartbeats 1000000 in
theorem rset_any (x : RLoc) (S : MS) (L : List Rg) (i p : Int) (w : World) (h : RMp w x S L) :
    Calls Tryz.prog 27 #[.pointer (some ⟨x.q, 0, none⟩), .int .i64 i, .int .i64 p] w fun e w' => e = .returned (.int .i64 (setC S i p)) ∧ RMp w' x (setS S i p) L ∧ Kept (fun k => x.pv.ownBlock = some k) w w' := by
  have hb := h.blk.cell
  simp only [MS.rcells] at hb
  obtain ⟨pA, pC, hpv⟩ := Sl.any h.prog
  rw [List.length_map] at hpv
  have hfp := h.fewp
  unfold setS
  by_cases h3 : S.d.kind = 3
  case neg =>
    have hs : setC S i p = 95 := if_pos h3
    rw [hs, if_neg (by decide)]
    have e3 : (S.d.kind != 3) = true := by simpa using h3
    have HH := Lib.hid h
    clear h h3 hs hpv
    go_enter Tryz.func27, Tryz.ntmps27
    go_wp2_with fail
    go_ret
    exact ⟨rfl, HH.out, Kept.refl _ w⟩
  case pos =>
  rw [h3] at hb
  by_cases hi : i < 0 ∨ (S.progs.length : Int) ≤ i ∨ p < -1
  case pos =>
    have hs : setC S i p = 91 := by unfold setC; rw [if_neg (fun e => e h3), if_pos hi]
    rw [hs, if_neg (by decide)]
    have HH := Lib.hid h
    rw [hpv] at hb
    clear h h3 hs hpv
    by_cases h1 : i < 0
    · have d1 : decide (i < 0) = true := decide_eq_true h1
      clear hi h1
      go_enter Tryz.func27, Tryz.ntmps27
      go_wp2_with fail
      go_ret
      exact ⟨rfl, HH.out, Kept.refl _ w⟩
    · have d1 : decide (i < 0) = false := decide_eq_false h1
      by_cases h2 : (S.progs.length : Int) ≤ i
      · have d2 : decide (i ≥ (S.progs.length : Int)) = true := decide_eq_true h2
        have d2' : decide ((S.progs.length : Int) ≤ i) = true := decide_eq_true h2
        clear hi h1 h2
        go_enter Tryz.func27, Tryz.ntmps27
        go_wp2_with fail
        go_ret
        exact ⟨rfl, HH.out, Kept.refl _ w⟩
      · have d2 : decide (i ≥ (S.progs.length : Int)) = false := decide_eq_false h2
        have d2' : decide ((S.progs.length : Int) ≤ i) = false := decide_eq_false h2
        have d3 : decide (p < -1) = true := decide_eq_true (by omega)
        clear hi h1 h2
        go_enter Tryz.func27, Tryz.ntmps27
        go_wp2_with fail
        go_ret
        exact ⟨rfl, HH.out, Kept.refl _ w⟩
  case neg =>
  have hs : setC S i p = 0 := by unfold setC; rw [if_neg (fun e => e h3), if_neg hi]
  rw [hs, if_pos rfl]
  obtain ⟨n, rfl⟩ : ∃ n : Nat, i = n := ⟨i.toNat, by omega⟩
  have hn : n < S.progs.length := by omega
  obtain ⟨g, cap, hv, hcap, hgl⟩ := Sl.some_ h.prog (by rw [List.length_map]; omega)
  rw [List.length_map] at hv
  rw [hv] at hb
  have hp := h.prog
  rw [hv] at hp
  have hc := Sl.cell hp (i := n) (c := pcell S.progs[n]) (by rw [List.getElem?_map, List.getElem?_eq_getElem hn]; rfl) (k := 0) (by omega)
  simp only [pcell, Nat.mul_one, Nat.add_zero] at hc
  have hf := Sl.frozen hp n
  have d1 : decide ((n : Int) < 0) = false := decide_eq_false (by omega)
  have d2 : decide ((n : Int) ≥ (S.progs.length : Int)) = false := decide_eq_false (by omega)
  have d2' : decide ((S.progs.length : Int) ≤ (n : Int)) = false := decide_eq_false (by omega)
  have d3 : decide (p < -1) = false := decide_eq_false (by omega)
  have HF := Lib.hid (h.setP hn p hv)
  have HV := Lib.hid hv
  clear h h3 hi hs hpv hp hv
  go_enter Tryz.func27, Tryz.ntmps27
  go_wp2_with fail
  go_ret
  exact ⟨rfl, HF.out, Kept.setCell (F := fun k => x.pv.ownBlock = some k) (Kept.refl _ w) (fun _ => by rw [HV.out]; rfl) _⟩
/-- Prog: what is told -/
def prgO (S : MS) (i : Int) : Option Int := if (S.progs.length : Int) ≤ i then none else if S.progs.getD i.toNat 0 < 0 then none else some (S.progs.getD i.toNat 0)
set_option maxHeartbeats 1000000 in
theorem rprog_any (x : RLoc) (S : MS) (L : List Rg) (i : Int) (w : World) (h : RMp w x S L) (hi0 : 0 ≤ i ∧ i < 18446744073709551616) :
    Calls Tryz.prog 29 #[.pointer (some ⟨x.q, 0, none⟩), .int .u64 i] w fun e w' => e = .returned (.tuple #[.int .i64 ((prgO S i).getD 0), .bool (prgO S i).isSome]) ∧ w = w' := by
  have hb := h.blk.cell
  simp only [MS.rcells] at hb
  obtain ⟨pA, pC, hpv⟩ := Sl.any h.prog
  rw [List.length_map] at hpv
  have hfp := h.fewp
  have hwr : (S.progs.length : Int) % 18446744073709551616 = S.progs.length := by omega
  unfold prgO
  by_cases h1 : (S.progs.length : Int) ≤ i
  case pos =>
    rw [if_pos h1]
    rw [hpv] at hb
    have d1 : decide (i ≥ (S.progs.length : Int)) = true := decide_eq_true h1
    have d1' : decide ((S.progs.length : Int) ≤ i) = true := decide_eq_true h1
    clear h h1 hpv
    go_enter Tryz.func29, Tryz.ntmps29
    go_wp2_with fail
    go_ret2
    exact ⟨rfl, rfl⟩
  case neg =>
  rw [if_neg h1]
  obtain ⟨n, rfl⟩ : ∃ n : Nat, i = n := ⟨i.toNat, by omega⟩
  rw [Int.toNat_natCast]
  have hn : n < S.progs.length := by omega
  obtain ⟨g, cap, hv, hcap, hgl⟩ := Sl.some_ h.prog (by rw [List.length_map]; omega)
  rw [List.length_map] at hv
  rw [hv] at hb
  have hp := h.prog
  rw [hv] at hp
  have hc := Sl.cell hp (i := n) (c := pcell (S.progs.getD n 0)) (by rw [List.getElem?_map, List.getD_eq_getElem?_getD, List.getElem?_eq_getElem hn]; rfl) (k := 0) (by omega)
  simp only [pcell, Nat.mul_one, Nat.add_zero] at hc
  have d1 : decide ((n : Int) ≥ (S.progs.length : Int)) = false := decide_eq_false h1
  have d1' : decide ((S.progs.length : Int) ≤ (n : Int)) = false := decide_eq_false h1
  generalize hPP : S.progs.getD n 0 = P at *
  have hc2 : w.cell? ⟨g, n, none⟩ = some (.int .i64 P) := by simpa using hc
  clear h hpv hp hv hPP hc
  by_cases h2 : P < 0
  · rw [if_pos h2]
    have d2 : decide (P < 0) = true := decide_eq_true h2
    clear h2 h1
    go_enter Tryz.func29, Tryz.ntmps29
    go_wp2_with fail
    go_ret2
    exact ⟨rfl, rfl⟩
  · rw [if_neg h2]
    have d2 : decide (P < 0) = false := decide_eq_false h2
    clear h2 h1
    go_enter Tryz.func29, Tryz.ntmps29
    go_wp2_with fail
    go_ret2
    exact ⟨rfl, rfl⟩

end Go.Proofs.YtahabogjfcdjkaaGreat
