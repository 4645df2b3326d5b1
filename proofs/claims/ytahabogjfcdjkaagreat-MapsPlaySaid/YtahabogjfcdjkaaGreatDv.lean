import Derived.Test.YtahabogjfcdjkaaGreatDu
set_option linter.unusedSimpArgs false
set_option linter.unusedVariables false
namespace Go.Proofs.YtahabogjfcdjkaaGreat
open Go.RowKit

theorem Tl.chain {b w w' : World} {x x' : Loc} {y y' : RLoc} {S R S' R' : MS} {L M L' M' : List Rg} (h : Tl b w x y S R L M (fun _ => False)) (h2 : Tl w w' x' y' S' R' L' M' (fun n => fpMp x L n ∨ fpR y M n)) : Tl b w' x' y' S' R' L' M' (fun _ => False) where
  p := h2.p
  r := h2.r
  ap := h2.ap
  fx := fun n hn => .inr (by
    rcases h2.fx n hn with (e | e) | e
    · exact (h.fx n e).resolve_left id
    · exact (h.fy n e).resolve_left id
    · exact Nat.le_trans h.kp.size e)
  fy := fun n hn => .inr (by
    rcases h2.fy n hn with (e | e) | e
    · exact (h.fx n e).resolve_left id
    · exact (h.fy n e).resolve_left id
    · exact Nat.le_trans h.kp.size e)
  kp := h.kp.trans h2.kp fun n hn e => by
    rcases e with e | e
    · have := (h.fx n e).resolve_left id; omega
    · have := (h.fy n e).resolve_left id; omega
theorem Tl.here {b w : World} {x : Loc} {y : RLoc} {S R : MS} {L M : List Rg} {F : Nat → Prop} (h : Tl b w x y S R L M F) : Tl w w x y S R L M (fun n => fpMp x L n ∨ fpR y M n) :=
  ⟨h.p, h.r, h.ap, fun n hn => .inl (.inl hn), fun n hn => .inl (.inr hn), Kept.refl _ _⟩

/-- a step is loaded whole -/
theorem step_load (s : Hs) (kv vv : Value) (g off i : Nat) (w : World) (c0 : w.cell? ⟨g, off + i * 5, none⟩ = some (.int .i64 s.what)) (c1 : w.cell? ⟨g, off + i * 5 + 1, none⟩ = some (.int .i64 s.n)) (c2 : w.cell? ⟨g, off + i * 5 + 2, none⟩ = some kv) (c3 : w.cell? ⟨g, off + i * 5 + 3, none⟩ = some vv) (c4 : w.cell? ⟨g, off + i * 5 + 4, none⟩ = some (.int .u64 s.flags)) :
    (Instr.loadAt 42 (.pointer (some ⟨g, off + i * 5, none⟩))).run Tryz.prog w = .ok (.agg (stepC s kv vv)) w := by
  have ha : (isAgg 42).run Tryz.prog w = .ok true w := by kernel_rfl
  have hs : (Tryz.prog.info? 42).map (·.size) = some 5 := by kernel_rfl
  obtain ⟨i0, hi0, hi1⟩ := Option.map_eq_some_iff.1 hs
  have hl := run_loadCells_list (P := Tryz.prog) w ⟨g, off + i * 5, none⟩ (stepC s kv vv).toList (fun j v hv => by
    rw [add_n]
    match j, hv with
    | 0, hv => cases hv; exact c0
    | 1, hv => cases hv; exact c1
    | 2, hv => cases hv; exact c2
    | 3, hv => cases hv; exact c3
    | 4, hv => cases hv; exact c4
    | j + 5, hv => simp [stepC] at hv)
  have h5 : (stepC s kv vv).toList.length = 5 := rfl
  rw [h5] at hl
  simp [Instr.loadAt, Instr.sureAddr, loadVar, ha, sizeOf, typeInfo, hi0, hi1, hl, Result.andThen]

theorem cells_of (d : Df) : d.cells = #[.int .i64 d.kind, .int .i64 d.key, .int .i64 d.value, .int .i64 d.entries, .bool d.timer, .int .i64 d.type] := rfl
set_option maxHeartbeats 20000000 in
set_option maxRecDepth 100000 in
theorem walk_play (d : Df) (a : Option Addr) (c : Nat) (ll : List Hs) (w : World) (hin : InHs w a ll) (hm : ll.length ≤ maxLen) (hfl : ∀ s ∈ ll, 0 ≤ s.flags ∧ s.flags < 18446744073709551616) :
    Calls Tryz.prog 3 #[.agg d.cells, .slice a ll.length c] w fun e w' => e = .returned (.bool true) ∧ Kept (fun _ => False) w w' := by
  have hkA := (Kept.refl (fun _ => False) w).alloc (.cells d.cells 23)
  have hBX := Blk.new w 23 d.cells
  have HIN := Lib.hid hin
  have HFL := Lib.hid hfl
  clear hin hfl
  have hcell : ∀ w' : World, Blk w' w.heap.size 23 d.cells → w'.cell? ⟨w.heap.size, 0, none⟩ = some (.int .i64 d.kind) ∧ w'.cell? ⟨w.heap.size, 1, none⟩ = some (.int .i64 d.key) ∧ w'.cell? ⟨w.heap.size, 2, none⟩ = some (.int .i64 d.value) ∧ w'.cell? ⟨w.heap.size, 3, none⟩ = some (.int .i64 d.entries) ∧ w'.cell? ⟨w.heap.size, 4, none⟩ = some (.bool d.timer) ∧ w'.cell? ⟨w.heap.size, 5, none⟩ = some (.int .i64 d.type) := fun w' hb => ⟨by rw [hb.cell]; rfl, by rw [hb.cell]; rfl, by rw [hb.cell]; rfl, by rw [hb.cell]; rfl, by rw [hb.cell]; rfl, by rw [hb.cell]; rfl⟩
  go_enter Tryz.func3, Tryz.ntmps3
  go_wp2_with fail
  generalize w.alloc (.cells d.cells 23) = b at *
  have hgs := hBX.lt
  generalize hg5 : w.heap.size = g5 at *
  refine (known_any b).mono ?_
  rintro e w1 ⟨rfl, hk1⟩
  have hk01 := hkA.trans hk1 (fun _ _ e => e)
  go_wp2_with fail
  refine (few_any a c ll w1 (HIN.out.kept hk01) hm).mono ?_
  rintro e w2 ⟨rfl, rfl⟩
  cases hfw : fewB ll with
  | false =>
    go_wp2_with fail
    go_ret
    exact ⟨rfl, hk01⟩
  | true =>
  go_wp2_with fail
  refine (memNew_any w2).mono ?_
  rintro e w3 ⟨rfl, hm3, hbl3, hk3, hz3⟩
  go_wp2_with fail
  refine (rmemNew_any w3).mono ?_
  rintro e w4 ⟨rfl, hm4, hbl4, hk4, hz4⟩
  have hk04 : Kept (fun _ => False) w w4 := (hk01.trans hk3 (fun _ _ e => e)).trans hk4 (fun _ _ e => e)
  have hB4 : Blk w4 g5 23 d.cells := ((hk1.trans hk3 (fun _ _ e => e)).trans hk4 (fun _ _ e => e)).blk (fun e => e) hBX
  have hm34 := hm3.quiet hk4
  have hsz1 := hk01.size
  rw [hg5] at hsz1
  generalize hmp : w2.heap.size = mp at *
  generalize hrp : w3.heap.size = rp at *
  have hg5mp : g5 < mp := by have := hk1.size; omega
  have hmprp : mp < rp := hz3
  have hrp4 : rp < w4.heap.size := hz4
  clear hm3 hbl3 hbl4 hk3 hk4 hz3 hz4 hk01 hk1 hBX hkA
  obtain ⟨e0, e1, e2, e3, e4, e5⟩ := hcell w4 hB4
  by_cases hd : d.kind = 4 ∨ defB { d with type := 0 } = false
  · have hn := new_bad d (.pointer (some ⟨mp, 0, none⟩)) w4 hd
    rw [cells_of] at hn
    have HN := Lib.hid hn
    clear hn
    go_wp2_with fail
    refine HN.out.mono ?_
    rintro e w5 ⟨rfl, hk5⟩
    obtain ⟨f0, f1, f2, f3, f4, f5⟩ := hcell w5 (hk5.blk (fun e => e) hB4)
    have hrn := rnew_bad d (.pointer (some ⟨rp, 0, none⟩)) w5 hd
    rw [cells_of] at hrn
    have HRN := Lib.hid hrn
    clear hrn e0 e1 e2 e3 e4 e5 HN
    go_wp2_with fail
    refine HRN.out.mono ?_
    rintro e w6 ⟨rfl, hk6⟩
    go_wp2_with fail
    go_ret
    exact ⟨rfl, (hk04.trans hk5 (fun _ _ e => e)).trans hk6 (fun _ _ e => e)⟩
  have hd4 : defB { d with type := 0 } = true := by
    cases h : defB { d with type := 0 }
    · exact absurd (Or.inr h) hd
    · rfl
  clear hd
  have hn := pnew_ok d mp w4 hm34 hd4
  rw [cells_of] at hn
  have HN := Lib.hid hn
  clear hn
  go_wp2_with fail
  refine HN.out.mono ?_
  rintro e w5 ⟨x, L, rfl, hxm, hM5, hC5, hf5, hk5⟩
  obtain ⟨f0, f1, f2, f3, f4, f5⟩ := hcell w5 (hk5.blk (fun e => by omega) hB4)
  have hrn := rnew_ok d rp w5 (hm4.kept hk5 (fun n hn => by
    have : n = rp := by simpa [blM, ob, Value.ownBlock] using hn
    omega)) hd4
  rw [cells_of] at hrn
  have HRN := Lib.hid hrn
  clear hrn e0 e1 e2 e3 e4 e5 HN
  go_wp2_with fail
  refine HRN.out.mono ?_
  rintro e w6 ⟨y, M, rfl, hym, hR6, hC6, hf6, hk6⟩
  have hz5 := hk5.size
  have hT6 : Tl w w6 x y (S0 d) (S0 d) L M (fun _ => False) :=
    ⟨hM5.kept hk6 (fun n hn e => by rcases hf5 n hn with h | h <;> omega), hR6, fun n hn hr => by
      have := hM5.lt hn
      rcases hf5 n hn with h | h <;> rcases hf6 n hr with h' | h' <;> omega, fun n hn => .inr (by rcases hf5 n hn with h | h <;> omega), fun n hn => .inr (by rcases hf6 n hn with h | h <;> omega),
      (hk04.trans hk5 (fun n hn e => by omega)).trans hk6 (fun n hn e => by omega)⟩
  have hRl6 : Rel (S0 d) (S0 d) (L.map Rg.see) := by rw [hC5]; exact rel0 (good_of hd4)
  have hSe6 : M.map Rg.see = L.map Rg.see := by rw [hC5, hC6]
  have hLl : L.length ≤ 64 := by
    have h1 := congrArg List.length hC5
    have h2 := (good_of hd4).en
    rw [List.length_map] at h1
    rw [h1]
    unfold C0
    split
    · simp; omega
    · simp
  have h50 : ll.length ≤ 50 := by
    unfold fewB at hfw
    simp only [Bool.and_eq_true, decide_eq_true_eq] at hfw
    exact hfw.2
  have hkv : ∀ s ∈ ll, s.k.length ≤ 100 ∧ s.v.length ≤ 400 := fun s hs => by
    unfold fewB at hfw
    simp only [Bool.and_eq_true, decide_eq_true_eq, List.all_eq_true] at hfw
    exact hfw.1 s hs
  have HKV := Lib.hid hkv
  go_wp2_with fail
  clear hkv f0 f1 f2 f3 f4 f5 hM5 hC5 hf5 hk5 hR6 hC6 hf6 hk6 hm34 hm4 hB4 hcell hz5 hk04 HRN hd4 hfw
  generalize S0 d = S at *
  obtain ⟨R, hT, hRl⟩ : ∃ R, Tl w w6 x y S R L M (fun _ => False) ∧ Rel S R (L.map Rg.see) := ⟨S, hT6, hRl6⟩
  clear hT6 hRl6
  generalize hxq : x.q = q at *
  generalize hyq : y.q = rq at *
  generalize Value.agg #[.int .i64 d.kind, .int .i64 d.key, .int .i64 d.value, .int .i64 d.entries, .bool d.timer, .int .i64 d.type] = dv at *
  go_loopw [11] (fun iv wr => ∃ (i : Nat) (x1 : Loc) (y1 : RLoc) (S1 R1 : MS) (L1 M1 : List Rg), iv = .int .i64 i ∧ i ≤ ll.length ∧ x1.q = q ∧ y1.q = rq ∧ x1.mp = mp ∧ y1.mp = rp ∧ Tl w wr x1 y1 S1 R1 L1 M1 (fun _ => False) ∧ Rel S1 R1 (L1.map Rg.see) ∧ M1.map Rg.see = L1.map Rg.see ∧ L1.length ≤ 64 + i) (fun iv _ => ll.length - (intOf iv).toNat)
  case atStart => exact ⟨0, x, y, S, R, L, M, rfl, Nat.zero_le _, hxq, hyq, hxm, hym, hT, hRl, hSe6, by omega⟩
  case round =>
    clear hT hRl hSe6 hxq hyq hxm hym hLl
    obtain ⟨i, x1, y1, S1, R1, L1, M1, rfl, hi, hxq, hyq, hxm, hym, hT, hRl, hSe, hLl⟩ := hrel
    by_cases hlt : i < ll.length
    case pos =>
      obtain ⟨s, hs⟩ : ∃ s, ll[i]? = some s := ⟨_, List.getElem?_eq_getElem hlt⟩
      have hsm := List.mem_of_getElem? hs
      obtain ⟨g, off, ka, kc, va, vc, ha, hg0, b0, b1, b2, b3, b4, l1, l2, hBk0, hBv0⟩ := HIN.out i s hs
      have hKr : Raw wr (.slice ka s.k.length kc) s.k := ⟨ka, kc, rfl, fun h0 => ((hBk0.kept hT.kp).by2 h0 l1).1⟩
      have hVr : Raw wr (.slice va s.v.length vc) s.v := ⟨va, vc, rfl, fun h0 => ((hBv0.kept hT.kp).by2 h0 l2).1⟩
      have hnot : ∀ n, n < w.heap.size → ¬ (fpMp x1 L1 n ∨ fpR y1 M1 n) := fun n hn e => by
        rcases e with e | e
        · have := (hT.fx n e).resolve_left id; omega
        · have := (hT.fy n e).resolve_left id; omega
      have hdo := does_any x1 y1 S1 R1 L1 M1 s _ _ wr hT.here hRl hSe hKr hVr (fun h0 n hn => hnot n ((hBk0.by2 h0 l1).2 n hn)) (fun h0 n hn => hnot n ((hBv0.by2 h0 l2).2 n hn)) (HKV.out s hsm).1 (HKV.out s hsm).2 (HFL.out s hsm) (by omega)
      rw [hxq, hyq] at hdo
      have HDO := Lib.hid hdo
      subst ha
      have hcw : ∀ j, wr.cell? ⟨g, j, none⟩ = w.cell? ⟨g, j, none⟩ := fun j => hT.kp.cell (p := ⟨g, j, none⟩) hg0 (fun h => h)
      have c0 := (hcw _).trans b0
      have c1 := (hcw _).trans b1
      have c2 := (hcw _).trans b2
      have c3 := (hcw _).trans b3
      have c4 := (hcw _).trans b4
      clear b0 b1 b2 b3 b4 hcw hdo hKr hVr hnot hBk0 hBv0
      go_wp2_with fail
      refine HDO.out.mono ?_
      rintro e w7 ⟨rfl, x2, y2, S2, R2, L2, M2, hq1, hq2, hq3, hq4, hT2, hRl2, hSe2, hLe2⟩
      go_wp2_with fail
      go_roundw
      case rel => exact ⟨i + 1, x2, y2, S2, R2, L2, M2, by go_num, by omega, hq1.trans hxq, hq2.trans hyq, hq3.trans hxm, hq4.trans hym, hT.chain hT2, hRl2, hSe2, by omega⟩
      case measure => simp [intOf]; omega
    case neg =>
      obtain rfl : i = ll.length := by omega
      clear HIN HFL HKV hlt hi
      go_wp2_with fail
      have hP0 := hT.p.mem
      have hR0 := hT.r.mem
      rw [hxm] at hP0
      rw [hym] at hR0
      have hK0 := hT.kp
      have hML : M1.length = L1.length := by have := congrArg List.length hSe; simpa using this
      clear hT hRl hxq hyq hxm hym hLl
      generalize x1.v = xv at *
      generalize y1.v = yv at *
      have HML := Lib.hid hML
      clear hML
      go_loopw [12] (fun iv wr => ∃ j : Nat, iv = .int .i64 ((j : Int) + 1) ∧ j ≤ 64 + ll.length ∧ IsMem wr mp xv L1 ∧ RMem wr rp yv M1 ∧ Kept (fun _ => False) w wr) (fun iv _ => 65 + ll.length - (intOf iv).toNat)
      case atStart => exact ⟨0, rfl, Nat.zero_le _, hP0, hR0, hK0⟩
      case round =>
        clear hP0 hR0 hK0
        obtain ⟨j, rfl, hj, hP, hR, hK⟩ := hrel
        by_cases hlt : j < 64 + ll.length
        case neg =>
          obtain rfl : j = 64 + ll.length := by omega
          clear HML
          go_wp2_with fail
          go_ret
          exact ⟨rfl, hK⟩
        case pos =>
          by_cases hjl : j < L1.length
          · obtain ⟨r, hr⟩ : ∃ r, L1[j]? = some r := ⟨_, List.getElem?_eq_getElem hjl⟩
            obtain ⟨r', hr'⟩ : ∃ r', M1[j]? = some r' := ⟨_, List.getElem?_eq_getElem (by have := HML.out; omega)⟩
            have hsee : r'.see = r.see := by
              have := congrArg (fun l => l[j]?) hSe
              simp only [List.getElem?_map, hr, hr', Option.map_some, Option.some.injEq] at this
              exact this
            have hb : r'.b = r.b := congrArg (·.1) hsee
            have hdd : r'.dead = r.dead := congrArg (·.2.2.2) hsee
            have HBI := Lib.hid (bytes_in mp xv L1 j wr hP hr)
            go_wp2_with fail
            refine HBI.out.mono ?_
            rintro e wa ⟨ov, rfl, hov, _, hka⟩
            have hPa := hP.quiet hka
            have hRa := hR.quiet hka
            have HBJ := Lib.hid (rbytes_in rp yv M1 j wa hRa hr')
            go_wp2_with fail
            refine HBJ.out.mono ?_
            rintro e wb ⟨rfl, rfl⟩
            have hby := hbytes_any ov r'.bv _ _ wa hov.by_ (hRa.rg r' (List.mem_of_getElem? hr')).2.1.by_
            rw [hb, show (r.b == r.b) = true by simp] at hby
            have HBY := Lib.hid hby
            have HLV := Lib.hid (mlive_in mp xv L1 j wa hPa hr)
            have hrl := rlive_in rp yv M1 j wa hRa hr'
            rw [hdd] at hrl
            have HRL := Lib.hid hrl
            clear hrl hby HBI HBJ
            generalize (!r.dead) = lv at *
            go_wp2_with fail
            refine HBY.out.mono ?_
            rintro e wb ⟨rfl, rfl⟩
            go_wp2_with fail
            refine HLV.out.mono ?_
            rintro e wb ⟨rfl, rfl⟩
            go_wp2_with fail
            refine HRL.out.mono ?_
            rintro e wb ⟨rfl, rfl⟩
            cases lv
            all_goals
              go_wp2_with fail
              go_roundw
              case rel => exact ⟨j + 1, by go_num, by omega, hPa, hRa, hK.trans hka (fun _ _ e => e)⟩
              case measure => simp [intOf]; omega
          · have hout : (((j : Int) + 1) < 1 ∨ (L1.length : Int) < (j : Int) + 1) := .inr (by omega)
            have houtR : (((j : Int) + 1) < 1 ∨ (M1.length : Int) < (j : Int) + 1) := .inr (by have := HML.out; omega)
            have HBI := Lib.hid (bytes_out mp xv L1 _ wr hP hout)
            have HBJ := Lib.hid (rbytes_out rp yv M1 _ wr hR houtR)
            have HLV := Lib.hid (mlive_out mp xv L1 _ wr hP hout)
            have HRL := Lib.hid (rlive_out rp yv M1 _ wr hR houtR)
            have HBY := Lib.hid (hbytes_any _ _ _ _ wr (By.nil wr) (By.nil wr))
            clear hout houtR
            go_wp2_with fail
            refine HBI.out.mono ?_
            rintro e wa ⟨rfl, rfl⟩
            go_wp2_with fail
            refine HBJ.out.mono ?_
            rintro e wa ⟨rfl, rfl⟩
            go_wp2_with fail
            refine HBY.out.mono ?_
            rintro e wa ⟨rfl, rfl⟩
            go_wp2_with fail
            refine HLV.out.mono ?_
            rintro e wa ⟨rfl, rfl⟩
            go_wp2_with fail
            refine HRL.out.mono ?_
            rintro e wa ⟨rfl, rfl⟩
            go_wp2_with fail
            go_roundw
            case rel => exact ⟨j + 1, by go_num, by omega, hP, hR, hK⟩
            case measure => simp [intOf]; omega

end Go.Proofs.YtahabogjfcdjkaaGreat
