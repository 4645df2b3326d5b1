import Derived.Test.YtlkgmcacbfoijaaGreatQnx
import Derived.Laws.BytesArg
import Derived.Test.YtlkgmcacbfoijaaGreatEkx
import Derived.Test.YtlkgmcacbfoijaaGreatKex
import Derived.Test.YtlkgmcacbfoijaaGreatMix
import Derived.Test.YtlkgmcacbfoijaaGreatMh
set_option linter.unusedSimpArgs false
set_option linter.unusedVariables false
namespace Go.Proofs.YtlkgmcacbfoijaaGreat
open Go.RowKit

/-! ### a text whose lines are parted by ';' -/
def fixB (b : UInt8) : UInt8 := if ((b.toNat : Int) == 59) = true then 10 else b
def byCell (b : UInt8) : List Value := [.int .u8 b.toNat]
theorem infoByte : (Tryz.prog.info? 5).map (fun i => (i.zero, i.size, i.bytes)) = some (some (.int .u8 0), 1, 1) := by kernel_rfl
def linesS17 (s : List UInt8) : List In := if (parseS (s.map fixB)).2.2 = 0 then (parseS (s.map fixB)).1 else []
theorem by_conv {w : World} {v : Value} {l : List UInt8} (h : Sl w 5 1 v (l.map byCell)) : (convert 85 9 v).run Tryz.prog w = .ok (stV l) w := by
  rcases Sl.shape h with ⟨rfl, hl⟩ | ⟨g, cap, rfl, hc, hg⟩
  · have : l = [] := by simpa using hl
    subst this
    exact run_convert_bytes_nil w 85 5 Tryz.underlying85 Tryz.underlying5 0 0 _ Tryz.underlying9
  · rw [List.length_map] at h ⊢
    refine run_convert_bytes_back (P := Tryz.prog) w _ _ 5 ⟨g, 0, none⟩ cap l Tryz.underlying85 Tryz.underlying5 Tryz.underlying9 (fun j hj => ?_)
    have := Sl.cell h (i := j) (c := byCell l[j]) (by rw [List.getElem?_map, List.getElem?_eq_getElem hj]; rfl) (k := 0) (by omega)
    rw [add_n]
    simpa [byCell] using this
set_option maxHeartbeats 8000000 in
set_option maxRecDepth 100000 in
theorem lines_any (s : List UInt8) (w : World) (hl : s.length ≤ 65536) : Calls Tryz.prog 24 #[stV s] w fun e w' =>
    (∃ v, e = .returned v ∧ InS w' v (linesS17 s) ∧ ∀ k, v.ownBlock = some k → w.heap.size ≤ k) ∧ Kept (fun _ => False) w w' := by
  have hsz := ba_size s
  obtain ⟨i0, hI0, hI1, hI2, hI3⟩ := info_parts infoByte
  have HP := Lib.hid (fun W => parse_any (s.map fixB) W (by rw [List.length_map]; omega))
  obtain ⟨R, hR⟩ : ∃ R, linesS17 s = R := ⟨_, rfl⟩
  rw [hR]
  unfold linesS17 at hR
  obtain ⟨ln, hln⟩ : ∃ ln, (parseS (s.map fixB)).2.1 = ln := ⟨_, rfl⟩
  obtain ⟨cd, hcd⟩ : ∃ cd, (parseS (s.map fixB)).2.2 = cd := ⟨_, rfl⟩
  obtain ⟨sl, hsl⟩ : ∃ sl, (parseS (s.map fixB)).1 = sl := ⟨_, rfl⟩
  rw [hln, hcd, hsl] at HP
  rw [hcd, hsl] at hR
  have HR := Lib.hid hR
  clear hR hln hcd hsl
  go_enter Tryz.func24, Tryz.ntmps24
  go_wp2_with fail
  go_loopw [3, 4] (fun tv iv wr => ∃ (i : Nat) (t' : Value), iv = .int .i64 i ∧ t' = tv ∧ i ≤ s.length ∧ Sl wr 5 1 t' (((s.take i).map fixB).map byCell) ∧ (∀ g, t'.ownBlock = some g → w.heap.size ≤ g) ∧ Kept (fun _ => False) w wr) (fun _ iv _ => s.length - (intOf iv).toNat)
  case atStart => exact ⟨0, _, rfl, rfl, by omega, Sl.nil _ _ _, fun g hg => by simp [Value.ownBlock] at hg, Kept.refl _ _⟩
  case round =>
    obtain ⟨i, tv, rfl, rfl, hi, hT, hown, hK⟩ := hrel
    by_cases hlt : i < s.length
    case neg =>
      obtain rfl : i = s.length := by omega
      have hdl : decide ((s.length : Int) < s.length) = false := decide_eq_false (by omega)
      rw [List.take_length] at hT
      have hcv := by_conv hT
      have HK := Lib.hid hK
      clear hT hown hK
      cases hc0 : ((cd : Int) == 0)
      all_goals
        have hc1 : ((cd : Int) != 0) = _ := congrArg Bool.not hc0
        have hc2 : (!((cd : Int) == 0)) = _ := congrArg Bool.not hc0
        go_wp2_with fail
        refine (HP.out _).mono ?_
        rintro e w8 ⟨⟨v, rfl, hv, ho⟩, hk8⟩
        have HV := Lib.hid hv
        have HO := Lib.hid ho
        clear hv ho
        go_wp2_with fail
      · refine bodyPost_ret (v := .slice none 0 0) (by simp [results, Tryz.results24, go_sem]) rfl ?_
        have hR := HR.out
        rw [if_neg (by intro h; rw [h] at hc0; cases hc0)] at hR
        subst hR
        exact ⟨⟨_, rfl, Sl.nil _ _ _, fun k hk => own_none hk⟩, HK.out.trans hk8 (fun _ _ h => h)⟩
      · refine bodyPost_ret (v := v) (by simp [results, Tryz.results24, go_sem]) rfl ?_
        have hR := HR.out
        rw [if_pos (by have := beq_iff_eq.1 hc0; omega)] at hR
        subst hR
        exact ⟨⟨_, rfl, HV.out, fun k hk => Nat.le_trans HK.out.size (HO.out k hk)⟩, HK.out.trans hk8 (fun _ _ h => h)⟩
    case pos =>
      have hdl : decide ((i : Int) < s.length) = true := decide_eq_true (by omega)
      obtain ⟨b, hb⟩ : ∃ b, s[i]? = some b := ⟨_, List.getElem?_eq_getElem hlt⟩
      have hix := st_index hb
      have hnx : ((s.take (i + 1)).map fixB).map byCell = ((s.take i).map fixB).map byCell ++ [byCell (fixB b)] := by
        rw [List.take_add_one, hb]
        simp
      have HNX := Lib.hid hnx
      have HT := Lib.hid hT
      have HK := Lib.hid hK
      have HOW := Lib.hid hown
      clear hb hnx hT hK hown HP HR
      have HLEN : Hid ((((s.take i).map fixB).map byCell).length = i) := Lib.hid (by simp; omega)
      have htl : (((s.take i).map fixB).map byCell).length ≤ 65536 := by simp; omega
      cases hs : ((b.toNat : Int) == 59)
      case true =>
        have hfx : byCell (fixB b) = [.int .u8 10] := by unfold byCell fixB; rw [if_pos hs]; rfl
        go_wp2_with (at_builtin; refine wpList_push (w := wr) rfl (.tmp 18) (.tmp 19) 85 rfl Tryz.underlying85 hI0 hI1 hI2 hI3 rfl (by omega) _ (((s.take i).map fixB).map byCell) [.int .u8 10] rfl rfl HT.out rfl (by simp [Value.oneCell']) (by omega) (by omega) ?_; intro g5 cap5 w5 hS5 hk5 hg5)
        rw [HLEN.out] at hS5
        go_roundw
        case rel => exact ⟨i + 1, _, by simp, rfl, by omega, by rw [HNX.out, hfx]; exact hS5, fun g hg => by
          have e : g5 = g := Option.some.inj hg
          subst e
          rcases hg5 with h | h
          · exact HOW.out _ h
          · have := HK.out.size
            omega, HK.out.trans hk5 (fun k hk e => by have := HOW.out k e; omega)⟩
        case measure => (simp [intOf]; try omega)
      case false =>
        have hfx : byCell (fixB b) = [.int .u8 b.toNat] := by unfold byCell fixB; rw [if_neg (by rw [hs]; decide)]
        go_wp2_with (at_builtin; refine wpList_push (w := wr) rfl (.tmp 21) (.tmp 25) 85 rfl Tryz.underlying85 hI0 hI1 hI2 hI3 rfl (by omega) _ (((s.take i).map fixB).map byCell) [.int .u8 b.toNat] rfl rfl HT.out rfl (by simp [Value.oneCell']) (by omega) (by omega) ?_; intro g5 cap5 w5 hS5 hk5 hg5)
        rw [HLEN.out] at hS5
        go_roundw
        case rel => exact ⟨i + 1, _, by simp, rfl, by omega, by rw [HNX.out, hfx]; exact hS5, fun g hg => by
          have e : g5 = g := Option.some.inj hg
          subst e
          rcases hg5 with h | h
          · exact HOW.out _ h
          · have := HK.out.size
            omega, HK.out.trans hk5 (fun k hk e => by have := HOW.out k e; omega)⟩
        case measure => (simp [intOf]; try omega)
set_option maxHeartbeats 8000000 in
set_option maxRecDepth 100000 in
theorem wpList_storeRow {P : Program} {ops : Array Oper} {Q : Exit → Act → World → Prop} {rest : List Oper} {o : Oper} {a : Act} {w : World} (hgd : o.guard = none) (x v : Operand) (t : TypeId) (hop : o.op = .store t x v) {i0 : TypeInfo} (hi : P.info? t = some i0) (g : Nat) (T : TypeId) (old vs : Array Value)
    (hx : a.eval x = .pointer (some ⟨g, 0, none⟩)) (hv : a.eval v = .agg vs) (hsz : i0.size = vs.size) (hold : old.size = vs.size) (h1 : ∀ y ∈ vs.toList, y.oneCell' = true) (hb : Blk w g T old)
    (hK : ∀ w', Blk w' g T vs → Kept (fun k => k = g) w w' → wpList P ops Q rest (a.put o.dst undef) w') : wpList P ops Q (o :: rest) a w := by
  refine wpList_plain hgd fun K hKK => ?_
  have hst := run_storeCells_at P g 0 T vs.toList 0 old w hb (by rw [Array.length_toList]; omega) h1
  have enew : (old.toList.take (0 + 0) ++ (vs.toList ++ old.toList.drop (0 + 0 + vs.toList.length))).toArray = vs := by
    have : old.toList.drop (0 + 0 + vs.toList.length) = [] := List.drop_eq_nil_of_le (by rw [Array.length_toList, Array.length_toList]; omega)
    rw [this]
    simp
  rw [List.append_assoc, enew] at hst
  have hcv : (a.eval v).cells = vs := by rw [hv]; rfl
  unfold Oper.wp
  simp [execOp, hop, hx, hcv, Instr.storeAt, Instr.sureAddr, storeVar, sizeOf, typeInfo, hi, hst, Result.andThen, hsz]
  exact hKK _ _ (hK _ (setRow_heap w g old vs T (0, 0) hb) ⟨rfl, rfl, rfl, by simp, fun k _ hk => setRow_other w g k _ hk⟩)
theorem results_cell1 {P : Program} {fn : Func} {p : Tmp} {ty : TypeId} (h : fn.results = #[.cell p ty]) (tmps : Array Value) (w : World) (g : Nat) (t : TypeId) (cs : Array Value) (fr : Nat × Nat) (d : TypeDesc)
    (hp : tmps.getD p undef = .pointer (some ⟨g, 0, none⟩)) (hg : w.heap[g]? = some (.cells cs t fr))
    (hu : P.underlying ty = some d) (hd : (match d with | .struct _ | .array _ _ => true | _ => false) = true) (hi : (P.info? ty).map (·.size) = some cs.size) :
    (results fn tmps).run P w = .ok (.agg cs) w := by
  have hp' : tmps[p]?.getD undef = .pointer (some ⟨g, 0, none⟩) := by simpa using hp
  simp [results, h, hp', asAddr, run_loadVar_row w g t ty cs fr d hg hu hd hi]
theorem infoObj : (Tryz.prog.info? 43).map (·.size) = some 3 := by kernel_rfl
set_option maxHeartbeats 8000000 in
set_option maxRecDepth 100000 in
/-- Of: an object of one program, no maps -/
theorem of17_any (s : List UInt8) (w : World) (hl : s.length ≤ 65536) : Calls Tryz.prog 12 #[stV s, .slice none 0 0] w fun e w' =>
    (∃ v g h, e = .returned (.agg #[.slice none 0 0, .slice none 0 0, .slice (some ⟨g, 0, none⟩) 1 1]) ∧ Blk w' g 38 #[stV h, v] ∧ w.heap.size ≤ g ∧ InS w' v (linesS17 s) ∧ ∀ k, v.ownBlock = some k → w.heap.size ≤ k) ∧ Kept (fun _ => False) w w' := by
  have HL := Lib.hid (fun W => lines_any s W hl)
  obtain ⟨i0, hi0, hi1⟩ := Option.map_eq_some_iff.1 infoObj
  go_enter Tryz.func12, Tryz.ntmps12
  go_wp2_with fail
  have hb0 := Blk.new w 43 #[.slice none 0 0, .slice none 0 0, .slice none 0 0]
  refine (HL.out _).mono ?_
  rintro e w8 ⟨⟨v, rfl, hv, ho⟩, hk8⟩
  have hb8 := hk8.blk id hb0
  have hlt8 := hb8.lt
  have c0 := hb8.cell 0
  have c1 := hb8.cell 1
  have c2 := hb8.cell 2
  have f0 := hb8.frozen 0
  have f1 := hb8.frozen 1
  have f2 := hb8.frozen 2
  have hsh := Sl.shape hv
  have HV := Lib.hid hv
  have HO := Lib.hid ho
  have HB := Lib.hid hb8
  clear hv ho hb8 hb0
  obtain ⟨rfl, hlen0⟩ | ⟨g0, cap, rfl, hcap, hlt⟩ := hsh
  · go_wp2_with fail
    have hb9 := (((HB.out.set_ 0 (.slice none 0 0)).set_ 1 (.slice none 0 0)).set_ 2 (.slice (some ⟨w8.heap.size, 0, none⟩) 1 1)).alloc (.cells #[.string ⟨#[109, 97, 105, 110]⟩, .slice none 0 0] 38)
    refine bodyPost_ret (v := .agg #[.slice none 0 0, .slice none 0 0, .slice (some ⟨w8.heap.size, 0, none⟩) 1 1]) (results_cell1 rfl _ _ w.heap.size _ _ (0, 0) _ rfl hb9 Tryz.underlying43 rfl infoObj) rfl ?_
    have hs8 := hk8.size
    have hs8 : w.heap.size + 1 ≤ w8.heap.size := by simpa using hs8
    have hk9 := (((Kept.refl (fun k => k = w.heap.size) w8).setCell (p := ⟨w.heap.size, 0, none⟩) (fun _ => rfl) (.slice none 0 0)).setCell (p := ⟨w.heap.size, 1, none⟩) (fun _ => rfl) (.slice none 0 0)).setCell (p := ⟨w.heap.size, 2, none⟩) (fun _ => rfl) (.slice (some ⟨w8.heap.size, 0, none⟩) 1 1)
    have hsz9 : (((w8.setCell ⟨w.heap.size, 0, none⟩ (.slice none 0 0)).setCell ⟨w.heap.size, 1, none⟩ (.slice none 0 0)).setCell ⟨w.heap.size, 2, none⟩ (.slice (some ⟨w8.heap.size, 0, none⟩) 1 1)).heap.size = w8.heap.size := by simp [World.setCell]
    have hno : ∀ k, (Value.slice none 0 0).ownBlock = some k → w.heap.size + 1 ≤ k := fun k hk => by have := HO.out k hk; simpa using this
    refine ⟨⟨_, w8.heap.size, [109, 97, 105, 110], rfl, blk_new _ hsz9.symm, by omega, Sl.alloc (Sl.kept hk9 HV.out (fun k hk h => by have := hno k hk; have : k = w.heap.size := h; omega)) _, fun k hk => by have := hno k hk; omega⟩, ?_⟩
    exact ((((Kept.refl _ w).alloc _).trans hk8 (fun _ _ h => h)).trans hk9 (fun k hk e => by have : k = w.heap.size := e; omega)).alloc _
  · rw [List.length_map] at HV HO hcap ⊢
    go_wp2_with fail
    have hb9 := (((HB.out.set_ 0 (.slice none 0 0)).set_ 1 (.slice none 0 0)).set_ 2 (.slice (some ⟨w8.heap.size, 0, none⟩) 1 1)).alloc (.cells #[.string ⟨#[109, 97, 105, 110]⟩, .slice (some ⟨g0, 0, none⟩) (linesS17 s).length cap] 38)
    refine bodyPost_ret (v := .agg #[.slice none 0 0, .slice none 0 0, .slice (some ⟨w8.heap.size, 0, none⟩) 1 1]) (results_cell1 rfl _ _ w.heap.size _ _ (0, 0) _ rfl hb9 Tryz.underlying43 rfl infoObj) rfl ?_
    have hs8 := hk8.size
    have hs8 : w.heap.size + 1 ≤ w8.heap.size := by simpa using hs8
    have hk9 := (((Kept.refl (fun k => k = w.heap.size) w8).setCell (p := ⟨w.heap.size, 0, none⟩) (fun _ => rfl) (.slice none 0 0)).setCell (p := ⟨w.heap.size, 1, none⟩) (fun _ => rfl) (.slice none 0 0)).setCell (p := ⟨w.heap.size, 2, none⟩) (fun _ => rfl) (.slice (some ⟨w8.heap.size, 0, none⟩) 1 1)
    have hsz9 : (((w8.setCell ⟨w.heap.size, 0, none⟩ (.slice none 0 0)).setCell ⟨w.heap.size, 1, none⟩ (.slice none 0 0)).setCell ⟨w.heap.size, 2, none⟩ (.slice (some ⟨w8.heap.size, 0, none⟩) 1 1)).heap.size = w8.heap.size := by simp [World.setCell]
    have hno : ∀ k, (Value.slice (some ⟨g0, 0, none⟩) (linesS17 s).length cap).ownBlock = some k → w.heap.size + 1 ≤ k := fun k hk => by have := HO.out k hk; simpa using this
    refine ⟨⟨_, w8.heap.size, [109, 97, 105, 110], rfl, blk_new _ hsz9.symm, by omega, Sl.alloc (Sl.kept hk9 HV.out (fun k hk h => by have := hno k hk; have : k = w.heap.size := h; omega)) _, fun k hk => by have := hno k hk; omega⟩, ?_⟩
    exact ((((Kept.refl _ w).alloc _).trans hk8 (fun _ _ h => h)).trans hk9 (fun k hk e => by have : k = w.heap.size := e; omega)).alloc _
/-- 'r0 = 1; if r0 == 0 goto +1; r0 = 2; exit' -/
theorem known_slots : linesS17 [114, 48, 32, 61, 32, 49, 59, 32, 105, 102, 32, 114, 48, 32, 61, 61, 32, 48, 32, 103, 111, 116, 111, 32, 43, 49, 59, 32, 114, 48, 32, 61, 32, 50, 59, 32, 101, 120, 105, 116] =
    [⟨183, 0, 0, 0, 1⟩, ⟨21, 0, 0, 1, 0⟩, ⟨183, 0, 0, 0, 2⟩, ⟨149, 0, 0, 0, 0⟩] := by decide +kernel

end Go.Proofs.YtlkgmcacbfoijaaGreat

set_option linter.unusedSimpArgs false
set_option linter.unusedVariables false
namespace Go.Proofs.YtlkgmcacbfoijaaGreat
open Go.RowKit

/-! ### what is known -/
def KA : List In := [⟨183, 0, 0, 0, 1⟩, ⟨21, 0, 0, 1, 0⟩, ⟨183, 0, 0, 0, 2⟩, ⟨149, 0, 0, 0, 0⟩]
def KB : List In := [⟨5, 0, 0, -1, 0⟩]
theorem KA_ok : InsOk KA := ⟨by decide, fun x hx => by
  simp only [KA, List.mem_cons, List.not_mem_nil, or_false] at hx
  rcases hx with rfl | rfl | rfl | rfl <;> exact ⟨by decide, by decide, by decide, by decide, by decide⟩⟩
theorem KB_ok : InsOk KB := ⟨by decide, fun x hx => by
  simp only [KB, List.mem_cons, List.not_mem_nil, or_false] at hx
  rcases hx with rfl; exact ⟨by decide, by decide, by decide, by decide, by decide⟩⟩
theorem KA_check : checkI KA = 0 := by decide +kernel
theorem KB_check : checkI KB = 0 := by decide +kernel
theorem KA_cost : costE KA = 0 := by
  refine ok_costE KA_check ?_ (nocall_depth (by decide +kernel))
  rintro ⟨i, hi, x, hx, _, j, hj, hji⟩
  have hi : i < 4 := hi
  rcases (by omega : i = 0 ∨ i = 1 ∨ i = 2 ∨ i = 3) with rfl | rfl | rfl | rfl
  · cases hx
    have hj : j ∈ ([1] : List Int) := hj
    simp at hj; omega
  · cases hx
    have hj : j ∈ ([2, 3] : List Int) := hj
    simp at hj; omega
  · cases hx
    have hj : j ∈ ([3] : List Int) := hj
    simp at hj; omega
  · cases hx
    have hj : j ∈ ([] : List Int) := hj
    simp at hj
theorem KB_cost : costE KB = 240 := by
  have hb : HasBack KB KB.length := ⟨0, by decide, ⟨5, 0, 0, -1, 0⟩, rfl, .zero, 0, by decide +kernel, by decide⟩
  unfold costE
  rw [if_pos KB_check, @if_pos _ (Classical.propDecidable _) hb]
  split <;> rfl
theorem KA_tells {R : RuleP} {V rk : Nat → Nat} (h : Tells R KA V rk) : V 0 = R.a 1 (R.a 1 (R.j (R.a 1 1) 1)) := by
  have r0 : Rch KA 0 := .zero
  have r1 : Rch KA 1 := .step r0 (by decide +kernel)
  have r2 : Rch KA 2 := .step r1 (by decide +kernel)
  have r3 : Rch KA 3 := .step r2 (by decide +kernel)
  have v3 := h.val 3 _ r3 rfl
  have v2 := h.val 2 _ r2 rfl
  have v1 := h.val 1 _ r1 rfl
  have v0 := h.val 0 _ r0 rfl
  have v3 : V 3 = 1 := v3
  have v2 : V 2 = R.a 1 (V 3) := v2
  have v1 : V 1 = R.a 1 (R.j (V 2) (V 3)) := v1
  have v0 : V 0 = R.a 1 (V 1) := v0
  rw [v0, v1, v2, v3]
theorem KA_long {V rk : Nat → Nat} (h : Tells longR KA V rk) : V 0 = 4 := by rw [KA_tells h]; decide +kernel
theorem KA_short {V rk : Nat → Nat} (h : Tells shortR KA V rk) : V 0 = 3 := by rw [KA_tells h]; decide +kernel
theorem KA_ways {V rk : Nat → Nat} (h : Tells waysR KA V rk) : V 0 = 2 := by rw [KA_tells h]; decide +kernel
set_option maxHeartbeats 8000000 in
set_option maxRecDepth 100000 in
theorem known24_any (w : World) : Calls Tryz.prog 4 #[] w fun e w' => e = .returned (.bool true) ∧ Kept (fun _ => False) w w' := by
  have HOF := Lib.hid (fun W => of17_any [114, 48, 32, 61, 32, 49, 59, 32, 105, 102, 32, 114, 48, 32, 61, 61, 32, 48, 32, 103, 111, 116, 111, 32, 43, 49, 59, 32, 114, 48, 32, 61, 32, 50, 59, 32, 101, 120, 105, 116] W (by decide))
  rw [known_slots] at HOF
  have HL := Lib.hid (fun a c W hI => cLongest_any KA a c W hI KA_ok (fun h => tells_of longR h))
  have HS := Lib.hid (fun a c W hI => cShortest_any KA a c W hI KA_ok (fun h => tells_of shortR h))
  have HW := Lib.hid (fun a c W hI => cWays_any KA a c W hI KA_ok (fun h => tells_of waysR h))
  have HB := Lib.hid (fun a c W hI => cWays_any KB a c W hI KB_ok (fun h => tells_of waysR h))
  rw [KA_cost] at HL HS HW
  rw [KB_cost] at HB
  go_enter Tryz.func4, Tryz.ntmps4
  go_wp2_with fail
  refine (HOF.out _).mono ?_
  rintro e w1 ⟨⟨v, g, nm, rfl, hb, hg, hI, ho⟩, hk1⟩
  have hc1 := hb.cell 1
  have hgl := hb.lt
  have hII := hI.ins
  obtain ⟨va, vc, rfl⟩ := Sl.any hI
  have hlen : (List.map icells KA).length = 4 := rfl
  have hII := Lib.hid hII
  have hfld : ∀ W, (Instr.field 43 (.agg #[.slice none 0 0, .slice none 0 0, .slice (some ⟨g, 0, none⟩) 1 1]) 2).run Tryz.prog W = .ok (.slice (some ⟨g, 0, none⟩) 1 1) W := fun W => by kernel_rfl
  clear hb hI ho HOF
  go_wp2_with fail
  have hI1 : Ins w1 (.slice va KA.length vc) KA := by have := hII.out; exact this
  refine (HL.out va vc w1 hI1).mono ?_
  rintro e w2 ⟨⟨r2, rfl, h2, _⟩, hk2⟩
  obtain ⟨V2, rk2, hT2, rfl⟩ := h2 trivial
  have hv2 := KA_long hT2
  rw [hv2]
  have hI2 := hI1.kept hk2
  have hK2 := hk1.trans hk2 (fun _ _ h => h)
  clear h2 hT2 hv2 hk2 HL hI1
  go_wp2_with fail
  refine (HS.out va vc w2 hI2).mono ?_
  rintro e w3 ⟨⟨r3, rfl, h3, _⟩, hk3⟩
  obtain ⟨V3, rk3, hT3, rfl⟩ := h3 trivial
  have hv3 := KA_short hT3
  rw [hv3]
  have hI3 := hI2.kept hk3
  have hK3 := hK2.trans hk3 (fun _ _ h => h)
  clear h3 hT3 hv3 hk3 HS hI2
  go_wp2_with fail
  refine (HW.out va vc w3 hI3).mono ?_
  rintro e w4 ⟨⟨r4, rfl, h4, _⟩, hk4⟩
  obtain ⟨V4, rk4, hT4, rfl⟩ := h4 trivial
  have hv4 := KA_ways hT4
  rw [hv4]
  have hK4 := hK3.trans hk4 (fun _ _ h => h)
  clear h4 hT4 hv4 hk4 HW hI3
  go_wp2_with fail
  have hB0 : Ins (w4.alloc (.cells #[.int .u8 5, .int .u8 0, .int .u8 0, .int .i16 (-1), .int .i32 0] 47)) (.slice (some ⟨w4.heap.size, 0, none⟩) 1 1) KB := (inS_one w4 ⟨5, 0, 0, -1, 0⟩ rfl).ins
  refine (HB.out _ _ _ hB0).mono ?_
  rintro e w5 ⟨⟨r5, rfl, _, h5⟩, hk5⟩
  have h5 := h5 (by decide)
  subst h5
  have hK5 := (hK4.alloc (.cells #[.int .u8 5, .int .u8 0, .int .u8 0, .int .i16 (-1), .int .i32 0] 47)).trans hk5 (fun _ _ h => h)
  go_wp2_with fail
  go_ret
  exact ⟨rfl, hK5⟩

end Go.Proofs.YtlkgmcacbfoijaaGreat

set_option linter.unusedSimpArgs false
set_option linter.unusedVariables false
namespace Go.Proofs.YtlkgmcacbfoijaaGreat
open Go.RowKit

/-! ### equal lists -/
set_option maxHeartbeats 4000000 in
set_option maxRecDepth 100000 in
theorem ints_any (A B : List Int) (av bv : Value) (w : World) (hA : Ints w av A) (hB : Ints w bv B) (hlen : A.length ≤ 1000000) :
    Calls Tryz.prog 11 #[av, bv] w fun e w' => ∃ r, e = .returned (.bool r) ∧ (r = true ↔ A = B) ∧ Kept (fun _ => False) w w' := by
  obtain ⟨aA, aC, hav⟩ := Sl.any hA
  obtain ⟨bA, bC, hbv⟩ := Sl.any hB
  rw [List.length_map] at hav hbv
  subst hav
  subst hbv
  by_cases hl : A.length = B.length
  case neg =>
    have hd : ((A.length : Int) != (B.length : Int)) = true := bne_iff_ne.2 (by omega)
    have HL := Lib.hid hl
    clear hl
    go_enter Tryz.func11, Tryz.ntmps11
    go_wp2_with fail
    go_ret
    exact ⟨false, rfl, ⟨fun h => absurd h (by decide), fun h => absurd (congrArg List.length h) HL.out⟩, Kept.refl _ w⟩
  case pos =>
    have HL := Lib.hid hl
    have hBl : B.length ≤ 1000000 := by omega
    have hd : ((A.length : Int) != (B.length : Int)) = false := bne_eq_false_iff_eq.2 (by omega)
    clear hl
    go_enter Tryz.func11, Tryz.ntmps11
    go_wp2_with fail
    clear hd
    go_loopw [5] (fun iv wr => ∃ i : Nat, iv = .int .i64 i ∧ i ≤ A.length ∧ A.take i = B.take i ∧ Kept (fun _ => False) w wr) (fun iv _ => A.length - (intOf iv).toNat)
    case atStart => exact ⟨0, rfl, by omega, rfl, Kept.refl _ _⟩
    case round =>
      obtain ⟨i, rfl, hi, htk, hK⟩ := hrel
      by_cases hlt : i < A.length
      case neg =>
        obtain rfl : i = A.length := by omega
        have hnd : decide ((A.length : Int) < A.length) = false := decide_eq_false (by omega)
        have HT := Lib.hid htk
        clear htk
        go_wp2_with fail
        go_ret
        refine ⟨true, rfl, ⟨fun _ => ?_, fun _ => rfl⟩, hK⟩
        have := HT.out
        rw [List.take_length, HL.out, List.take_length] at this
        exact this
      case pos =>
        have hltB : i < B.length := by have := HL.out; omega
        obtain ⟨y, hy⟩ : ∃ y, A[i]? = some y := ⟨_, List.getElem?_eq_getElem hlt⟩
        obtain ⟨z, hz⟩ : ∃ z, B[i]? = some z := ⟨_, List.getElem?_eq_getElem hltB⟩
        obtain ⟨ag, ac, hav, hag, d0⟩ := Ints.at_ (Sl.kept hK hA (fun _ _ h => h)) hlt
        obtain ⟨bg, bc, hbv, hbg, d1⟩ := Ints.at_ (Sl.kept hK hB (fun _ _ h => h)) hltB
        rw [List.getD_eq_getElem?_getD, hy] at d0
        rw [List.getD_eq_getElem?_getD, hz] at d1
        have d0 : wr.cell? ⟨ag, i, none⟩ = some (.int .i64 y) := d0
        have d1 : wr.cell? ⟨bg, i, none⟩ = some (.int .i64 z) := d1
        obtain ⟨rfl, -, rfl⟩ := Value.slice.inj hav
        obtain ⟨rfl, -, rfl⟩ := Value.slice.inj hbv
        have HT := Lib.hid htk
        have HY := Lib.hid hy
        have HZ := Lib.hid hz
        clear htk hy hz hav hbv
        cases hq : (y != z)
        case true =>
          go_wp2_with fail
          refine wp_region_mix0 [.w, .w, .w, .l, .w, .w, .w, .l, .w] (by kernel_rfl) (by kernel_rfl) ?_
          repeat (first
            | (refine mix_w1 ?_; go_big_quiet_step (fail); refine wpQuiet_nil ?_)
            | (refine mix_l1 rfl ?_; go_big_quiet_step (fail); refine wpQuiet_nil ?_))
          refine mix_done ?_
          go_wp2_with fail
          go_ret
          refine ⟨false, rfl, ⟨fun h => absurd h (by decide), fun h => ?_⟩, hK.drew⟩
          exfalso
          have h1 := HY.out
          rw [h, HZ.out] at h1
          rw [Option.some.inj h1] at hq
          simp at hq
        case false =>
          have hyz : y = z := by simpa using hq
          have HE := Lib.hid hyz
          clear hyz
          go_wp2_with fail
          refine wp_region_mix0 [.w, .w, .w, .l, .w, .w, .w, .l, .w] (by kernel_rfl) (by kernel_rfl) ?_
          repeat (first
            | (refine mix_w1 ?_; go_big_quiet_step (fail); refine wpQuiet_nil ?_)
            | (refine mix_l1 rfl ?_; go_big_quiet_step (fail); refine wpQuiet_nil ?_))
          refine mix_done ?_
          go_wp2_with fail
          go_roundw
          case rel => exact ⟨i + 1, by go_num, by omega, by rw [List.take_add_one, List.take_add_one, HT.out, HY.out, HZ.out, HE.out], hK.drew⟩
          case measure => simp [intOf]; omega

end Go.Proofs.YtlkgmcacbfoijaaGreat

