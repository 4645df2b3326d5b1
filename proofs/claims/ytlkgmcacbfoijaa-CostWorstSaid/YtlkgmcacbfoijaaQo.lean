import Derived.Test.YtlkgmcacbfoijaaQn
import Derived.Laws.BytesArg
set_option linter.unusedSimpArgs false
set_option linter.unusedVariables false
namespace Go.Proofs.Ytlkgmcacbfoijaa
open Go.RowKit

/-! ### a text whose lines are parted by ';' -/
def fixB (b : UInt8) : UInt8 := if ((b.toNat : Int) == 59) = true then 10 else b
def byCell (b : UInt8) : List Value := [.int .u8 b.toNat]
theorem infoByte : (Try.prog.info? 5).map (fun i => (i.zero, i.size, i.bytes)) = some (some (.int .u8 0), 1, 1) := by kernel_rfl
def linesS17 (s : List UInt8) : List In := if (parseS (s.map fixB)).2.2 = 0 then (parseS (s.map fixB)).1 else []
theorem by_conv {w : World} {v : Value} {l : List UInt8} (h : Sl w 5 1 v (l.map byCell)) : (convert 71 9 v).run Try.prog w = .ok (stV l) w := by
  rcases Sl.shape h with ⟨rfl, hl⟩ | ⟨g, cap, rfl, hc, hg⟩
  · have : l = [] := by simpa using hl
    subst this
    exact run_convert_bytes_nil w 71 5 Try.underlying71 Try.underlying5 0 0 _ Try.underlying9
  · rw [List.length_map] at h ⊢
    refine run_convert_bytes_back (P := Try.prog) w _ _ 5 ⟨g, 0, none⟩ cap l Try.underlying71 Try.underlying5 Try.underlying9 (fun j hj => ?_)
    have := Sl.cell h (i := j) (c := byCell l[j]) (by rw [List.getElem?_map, List.getElem?_eq_getElem hj]; rfl) (k := 0) (by omega)
    rw [add_n]
    simpa [byCell] using this
set_option maxHeartbeats 8000000 in
set_option maxRecDepth 100000 in
theorem lines_any (s : List UInt8) (w : World) (hl : s.length ≤ 65536) : Calls Try.prog 24 #[stV s] w fun e w' =>
    (∃ v, e = .returned v ∧ InS w' v (linesS17 s) ∧ ∀ k, v.ownBlock = some k → w.heap.size ≤ k) ∧ Kept (fun _ => False) w w' := by
  have hsz := ba_size s
  obtain ⟨i0, hI0, hI1, hI2, hI3⟩ := info_parts infoByte
  have HP := Lib.hid (fun W => parse_any (s.map fixB) W (by rw [List.length_map]; omega))
  obtain ⟨R, hR⟩ : ∃ R, linesS17 s = R := ⟨_, rfl⟩
  rw [hR]
  unfold linesS17 at hR
  obtain ⟨ln, hln⟩ : ∃ ln, (parseS (s.map fixB)).2.1 = ln := ⟨_, rfl⟩
  obtain ⟨cd, hcd⟩ : ∃ cd, (parseS (s.map fixB)).2.2 = cd := ⟨_, rfl⟩
  obtain ⟨sl, hsl⟩ : ∃ sl, (parseS (s.map fixB)).1 = sl := ⟨_, rfl⟩
  rw [hln, hcd, hsl] at HP
  rw [hcd, hsl] at hR
  have HR := Lib.hid hR
  clear hR hln hcd hsl
  go_enter Try.func24, Try.ntmps24
  go_wp2_with fail
  go_loopw [3, 4] (fun tv iv wr => ∃ (i : Nat) (t' : Value), iv = .int .i64 i ∧ t' = tv ∧ i ≤ s.length ∧ Sl wr 5 1 t' (((s.take i).map fixB).map byCell) ∧ (∀ g, t'.ownBlock = some g → w.heap.size ≤ g) ∧ Kept (fun _ => False) w wr) (fun _ iv _ => s.length - (intOf iv).toNat)
  case atStart => exact ⟨0, _, rfl, rfl, by omega, Sl.nil _ _ _, fun g hg => by simp [Value.ownBlock] at hg, Kept.refl _ _⟩
  case round =>
    obtain ⟨i, tv, rfl, rfl, hi, hT, hown, hK⟩ := hrel
    by_cases hlt : i < s.length
    case neg =>
      obtain rfl : i = s.length := by omega
      have hdl : decide ((s.length : Int) < s.length) = false := decide_eq_false (by omega)
      rw [List.take_length] at hT
      have hcv := by_conv hT
      have HK := Lib.hid hK
      clear hT hown hK
      cases hc0 : ((cd : Int) == 0)
      all_goals
        have hc1 : ((cd : Int) != 0) = _ := congrArg Bool.not hc0
        have hc2 : (!((cd : Int) == 0)) = _ := congrArg Bool.not hc0
        go_wp2_with fail
        refine (HP.out _).mono ?_
        rintro e w8 ⟨⟨v, rfl, hv, ho⟩, hk8⟩
        have HV := Lib.hid hv
        have HO := Lib.hid ho
        clear hv ho
        go_wp2_with fail
      · refine bodyPost_ret (v := .slice none 0 0) (by simp [results, Try.results24, go_sem]) rfl ?_
        have hR := HR.out
        rw [if_neg (by intro h; rw [h] at hc0; cases hc0)] at hR
        subst hR
        exact ⟨⟨_, rfl, Sl.nil _ _ _, fun k hk => own_none hk⟩, HK.out.trans hk8 (fun _ _ h => h)⟩
      · refine bodyPost_ret (v := v) (by simp [results, Try.results24, go_sem]) rfl ?_
        have hR := HR.out
        rw [if_pos (by have := beq_iff_eq.1 hc0; omega)] at hR
        subst hR
        exact ⟨⟨_, rfl, HV.out, fun k hk => Nat.le_trans HK.out.size (HO.out k hk)⟩, HK.out.trans hk8 (fun _ _ h => h)⟩
    case pos =>
      have hdl : decide ((i : Int) < s.length) = true := decide_eq_true (by omega)
      obtain ⟨b, hb⟩ : ∃ b, s[i]? = some b := ⟨_, List.getElem?_eq_getElem hlt⟩
      have hix := st_index hb
      have hnx : ((s.take (i + 1)).map fixB).map byCell = ((s.take i).map fixB).map byCell ++ [byCell (fixB b)] := by
        rw [List.take_add_one, hb]
        simp
      have HNX := Lib.hid hnx
      have HT := Lib.hid hT
      have HK := Lib.hid hK
      have HOW := Lib.hid hown
      clear hb hnx hT hK hown HP HR
      have HLEN : Hid ((((s.take i).map fixB).map byCell).length = i) := Lib.hid (by simp; omega)
      have htl : (((s.take i).map fixB).map byCell).length ≤ 65536 := by simp; omega
      cases hs : ((b.toNat : Int) == 59)
      case true =>
        have hfx : byCell (fixB b) = [.int .u8 10] := by unfold byCell fixB; rw [if_pos hs]; rfl
        go_wp2_with (at_builtin; refine wpList_push (w := wr) rfl (.tmp 18) (.tmp 19) 71 rfl Try.underlying71 hI0 hI1 hI2 hI3 rfl (by omega) _ (((s.take i).map fixB).map byCell) [.int .u8 10] rfl rfl HT.out rfl (by simp [Value.oneCell']) (by omega) (by omega) ?_; intro g5 cap5 w5 hS5 hk5 hg5)
        rw [HLEN.out] at hS5
        go_roundw
        case rel => exact ⟨i + 1, _, by simp, rfl, by omega, by rw [HNX.out, hfx]; exact hS5, fun g hg => by
          have e : g5 = g := Option.some.inj hg
          subst e
          rcases hg5 with h | h
          · exact HOW.out _ h
          · have := HK.out.size
            omega, HK.out.trans hk5 (fun k hk e => by have := HOW.out k e; omega)⟩
        case measure => (simp [intOf]; try omega)
      case false =>
        have hfx : byCell (fixB b) = [.int .u8 b.toNat] := by unfold byCell fixB; rw [if_neg (by rw [hs]; decide)]
        go_wp2_with (at_builtin; refine wpList_push (w := wr) rfl (.tmp 21) (.tmp 25) 71 rfl Try.underlying71 hI0 hI1 hI2 hI3 rfl (by omega) _ (((s.take i).map fixB).map byCell) [.int .u8 b.toNat] rfl rfl HT.out rfl (by simp [Value.oneCell']) (by omega) (by omega) ?_; intro g5 cap5 w5 hS5 hk5 hg5)
        rw [HLEN.out] at hS5
        go_roundw
        case rel => exact ⟨i + 1, _, by simp, rfl, by omega, by rw [HNX.out, hfx]; exact hS5, fun g hg => by
          have e : g5 = g := Option.some.inj hg
          subst e
          rcases hg5 with h | h
          · exact HOW.out _ h
          · have := HK.out.size
            omega, HK.out.trans hk5 (fun k hk e => by have := HOW.out k e; omega)⟩
        case measure => (simp [intOf]; try omega)
set_option maxHeartbeats 8000000 in
set_option maxRecDepth 100000 in
theorem wpList_storeRow {P : Program} {ops : Array Oper} {Q : Exit → Act → World → Prop} {rest : List Oper} {o : Oper} {a : Act} {w : World} (hgd : o.guard = none) (x v : Operand) (t : TypeId) (hop : o.op = .store t x v) {i0 : TypeInfo} (hi : P.info? t = some i0) (g : Nat) (T : TypeId) (old vs : Array Value)
    (hx : a.eval x = .pointer (some ⟨g, 0, none⟩)) (hv : a.eval v = .agg vs) (hsz : i0.size = vs.size) (hold : old.size = vs.size) (h1 : ∀ y ∈ vs.toList, y.oneCell' = true) (hb : Blk w g T old)
    (hK : ∀ w', Blk w' g T vs → Kept (fun k => k = g) w w' → wpList P ops Q rest (a.put o.dst undef) w') : wpList P ops Q (o :: rest) a w := by
  refine wpList_plain hgd fun K hKK => ?_
  have hst := run_storeCells_at P g 0 T vs.toList 0 old w hb (by rw [Array.length_toList]; omega) h1
  have enew : (old.toList.take (0 + 0) ++ (vs.toList ++ old.toList.drop (0 + 0 + vs.toList.length))).toArray = vs := by
    have : old.toList.drop (0 + 0 + vs.toList.length) = [] := List.drop_eq_nil_of_le (by rw [Array.length_toList, Array.length_toList]; omega)
    rw [this]
    simp
  rw [List.append_assoc, enew] at hst
  have hcv : (a.eval v).cells = vs := by rw [hv]; rfl
  unfold Oper.wp
  simp [execOp, hop, hx, hcv, Instr.storeAt, Instr.sureAddr, storeVar, sizeOf, typeInfo, hi, hst, Result.andThen, hsz]
  exact hKK _ _ (hK _ (setRow_heap w g old vs T (0, 0) hb) ⟨rfl, rfl, rfl, by simp, fun k _ hk => setRow_other w g k _ hk⟩)
theorem results_cell1 {P : Program} {fn : Func} {p : Tmp} {ty : TypeId} (h : fn.results = #[.cell p ty]) (tmps : Array Value) (w : World) (g : Nat) (t : TypeId) (cs : Array Value) (fr : Nat × Nat) (d : TypeDesc)
    (hp : tmps.getD p undef = .pointer (some ⟨g, 0, none⟩)) (hg : w.heap[g]? = some (.cells cs t fr))
    (hu : P.underlying ty = some d) (hd : (match d with | .struct _ | .array _ _ => true | _ => false) = true) (hi : (P.info? ty).map (·.size) = some cs.size) :
    (results fn tmps).run P w = .ok (.agg cs) w := by
  have hp' : tmps[p]?.getD undef = .pointer (some ⟨g, 0, none⟩) := by simpa using hp
  simp [results, h, hp', asAddr, run_loadVar_row w g t ty cs fr d hg hu hd hi]
theorem infoObj : (Try.prog.info? 44).map (·.size) = some 3 := by kernel_rfl
set_option maxHeartbeats 8000000 in
set_option maxRecDepth 100000 in
/-- Of: an object of one program, no maps -/
theorem of17_any (s : List UInt8) (w : World) (hl : s.length ≤ 65536) : Calls Try.prog 12 #[stV s, .slice none 0 0] w fun e w' =>
    (∃ v g h, e = .returned (.agg #[.slice none 0 0, .slice none 0 0, .slice (some ⟨g, 0, none⟩) 1 1]) ∧ Blk w' g 39 #[stV h, v] ∧ w.heap.size ≤ g ∧ InS w' v (linesS17 s) ∧ ∀ k, v.ownBlock = some k → w.heap.size ≤ k) ∧ Kept (fun _ => False) w w' := by
  have HL := Lib.hid (fun W => lines_any s W hl)
  obtain ⟨i0, hi0, hi1⟩ := Option.map_eq_some_iff.1 infoObj
  go_enter Try.func12, Try.ntmps12
  go_wp2_with fail
  have hb0 := Blk.new w 44 #[.slice none 0 0, .slice none 0 0, .slice none 0 0]
  refine (HL.out _).mono ?_
  rintro e w8 ⟨⟨v, rfl, hv, ho⟩, hk8⟩
  have hb8 := hk8.blk id hb0
  have hlt8 := hb8.lt
  have c0 := hb8.cell 0
  have c1 := hb8.cell 1
  have c2 := hb8.cell 2
  have f0 := hb8.frozen 0
  have f1 := hb8.frozen 1
  have f2 := hb8.frozen 2
  have hsh := Sl.shape hv
  have HV := Lib.hid hv
  have HO := Lib.hid ho
  have HB := Lib.hid hb8
  clear hv ho hb8 hb0
  obtain ⟨rfl, hlen0⟩ | ⟨g0, cap, rfl, hcap, hlt⟩ := hsh
  · go_wp2_with fail
    have hb9 := (((HB.out.set_ 0 (.slice none 0 0)).set_ 1 (.slice none 0 0)).set_ 2 (.slice (some ⟨w8.heap.size, 0, none⟩) 1 1)).alloc (.cells #[.string ⟨#[109, 97, 105, 110]⟩, .slice none 0 0] 39)
    refine bodyPost_ret (v := .agg #[.slice none 0 0, .slice none 0 0, .slice (some ⟨w8.heap.size, 0, none⟩) 1 1]) (results_cell1 rfl _ _ w.heap.size _ _ (0, 0) _ rfl hb9 Try.underlying44 rfl infoObj) rfl ?_
    have hs8 := hk8.size
    have hs8 : w.heap.size + 1 ≤ w8.heap.size := by simpa using hs8
    have hk9 := (((Kept.refl (fun k => k = w.heap.size) w8).setCell (p := ⟨w.heap.size, 0, none⟩) (fun _ => rfl) (.slice none 0 0)).setCell (p := ⟨w.heap.size, 1, none⟩) (fun _ => rfl) (.slice none 0 0)).setCell (p := ⟨w.heap.size, 2, none⟩) (fun _ => rfl) (.slice (some ⟨w8.heap.size, 0, none⟩) 1 1)
    have hsz9 : (((w8.setCell ⟨w.heap.size, 0, none⟩ (.slice none 0 0)).setCell ⟨w.heap.size, 1, none⟩ (.slice none 0 0)).setCell ⟨w.heap.size, 2, none⟩ (.slice (some ⟨w8.heap.size, 0, none⟩) 1 1)).heap.size = w8.heap.size := by simp [World.setCell]
    have hno : ∀ k, (Value.slice none 0 0).ownBlock = some k → w.heap.size + 1 ≤ k := fun k hk => by have := HO.out k hk; simpa using this
    refine ⟨⟨_, w8.heap.size, [109, 97, 105, 110], rfl, blk_new _ hsz9.symm, by omega, Sl.alloc (Sl.kept hk9 HV.out (fun k hk h => by have := hno k hk; have : k = w.heap.size := h; omega)) _, fun k hk => by have := hno k hk; omega⟩, ?_⟩
    exact ((((Kept.refl _ w).alloc _).trans hk8 (fun _ _ h => h)).trans hk9 (fun k hk e => by have : k = w.heap.size := e; omega)).alloc _
  · rw [List.length_map] at HV HO hcap ⊢
    go_wp2_with fail
    have hb9 := (((HB.out.set_ 0 (.slice none 0 0)).set_ 1 (.slice none 0 0)).set_ 2 (.slice (some ⟨w8.heap.size, 0, none⟩) 1 1)).alloc (.cells #[.string ⟨#[109, 97, 105, 110]⟩, .slice (some ⟨g0, 0, none⟩) (linesS17 s).length cap] 39)
    refine bodyPost_ret (v := .agg #[.slice none 0 0, .slice none 0 0, .slice (some ⟨w8.heap.size, 0, none⟩) 1 1]) (results_cell1 rfl _ _ w.heap.size _ _ (0, 0) _ rfl hb9 Try.underlying44 rfl infoObj) rfl ?_
    have hs8 := hk8.size
    have hs8 : w.heap.size + 1 ≤ w8.heap.size := by simpa using hs8
    have hk9 := (((Kept.refl (fun k => k = w.heap.size) w8).setCell (p := ⟨w.heap.size, 0, none⟩) (fun _ => rfl) (.slice none 0 0)).setCell (p := ⟨w.heap.size, 1, none⟩) (fun _ => rfl) (.slice none 0 0)).setCell (p := ⟨w.heap.size, 2, none⟩) (fun _ => rfl) (.slice (some ⟨w8.heap.size, 0, none⟩) 1 1)
    have hsz9 : (((w8.setCell ⟨w.heap.size, 0, none⟩ (.slice none 0 0)).setCell ⟨w.heap.size, 1, none⟩ (.slice none 0 0)).setCell ⟨w.heap.size, 2, none⟩ (.slice (some ⟨w8.heap.size, 0, none⟩) 1 1)).heap.size = w8.heap.size := by simp [World.setCell]
    have hno : ∀ k, (Value.slice (some ⟨g0, 0, none⟩) (linesS17 s).length cap).ownBlock = some k → w.heap.size + 1 ≤ k := fun k hk => by have := HO.out k hk; simpa using this
    refine ⟨⟨_, w8.heap.size, [109, 97, 105, 110], rfl, blk_new _ hsz9.symm, by omega, Sl.alloc (Sl.kept hk9 HV.out (fun k hk h => by have := hno k hk; have : k = w.heap.size := h; omega)) _, fun k hk => by have := hno k hk; omega⟩, ?_⟩
    exact ((((Kept.refl _ w).alloc _).trans hk8 (fun _ _ h => h)).trans hk9 (fun k hk e => by have : k = w.heap.size := e; omega)).alloc _
/-- 'r0 = 1; if r0 == 0 goto +1; r0 = 2; exit' -/
theorem known_slots : linesS17 [114, 48, 32, 61, 32, 49, 59, 32, 105, 102, 32, 114, 48, 32, 61, 61, 32, 48, 32, 103, 111, 116, 111, 32, 43, 49, 59, 32, 114, 48, 32, 61, 32, 50, 59, 32, 101, 120, 105, 116] =
    [⟨183, 0, 0, 0, 1⟩, ⟨21, 0, 0, 1, 0⟩, ⟨183, 0, 0, 0, 2⟩, ⟨149, 0, 0, 0, 0⟩] := by decide +kernel

end Go.Proofs.Ytlkgmcacbfoijaa
