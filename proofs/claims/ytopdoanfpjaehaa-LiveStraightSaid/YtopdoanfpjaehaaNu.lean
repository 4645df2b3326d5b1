import Derived.Test.YtopdoanfpjaehaaNs
set_option linter.unusedSimpArgs false
set_option linter.unusedVariables false
namespace Go.Proofs.Ytopdoanfpjaehaa
open Go.RowKit

/-! ### rows of operations without jumps -/
def sB (x : In) : Bool := ((((x.op % 8 == 4) || (x.op % 8 == 7)) || (x.op % 8 == 1)) || (x.op % 8 == 2)) || (x.op % 8 == 3)
def exI : In := ⟨149, 0, 0, 0, 0⟩
theorem exI_ok : InOk exI := ⟨by decide, by decide, by decide, by decide, by decide⟩
theorem no_wide {P : List In} (h : ∀ x ∈ P, (x.op == 24) = false) : ∀ i, i < P.length → (secL P)[i]? = some false := by
  intro i
  induction i with
  | zero => exact fun hi => sec_zero hi
  | succ i ih =>
    intro hi
    obtain ⟨x, hx⟩ : ∃ x, P[i]? = some x := ⟨_, List.getElem?_eq_getElem (by omega)⟩
    have := sec_succ hx (ih (by omega)) hi
    rw [h x (List.mem_of_getElem? hx), Bool.false_and] at this
    exact this
/-- one slot of such a row: what is live at the next one goes on -/
theorem straight_next {i : Nat} {x : In} (h : sB x = true) : nextC i x = [(i : Int) + 1] := by
  have hc : x.op % 8 ≠ 0 ∧ x.op % 8 ≠ 5 ∧ x.op % 8 ≠ 6 := by
    unfold sB at h
    simp at h
    omega
  have e1 : (x.op == 149) = false := by
    cases e : (x.op == 149)
    · rfl
    · have : x.op = 149 := by simpa using e
      omega
  have e2 : (x.op == 24) = false := by
    cases e : (x.op == 24)
    · rfl
    · have : x.op = 24 := by simpa using e
      omega
  have e3 : isJumpB x = false := by
    have a5 : (clsI x == 5) = false := by
      cases e : (clsI x == 5)
      · rfl
      · have : clsI x = 5 := by simpa using e
        unfold clsI at this
        omega
    have a6 : (clsI x == 6) = false := by
      cases e : (clsI x == 6)
      · rfl
      · have : clsI x = 6 := by simpa using e
        unfold clsI at this
        omega
    unfold isJumpB
    rw [a5, a6]
    rfl
  unfold nextC
  rw [e1, e2, e3]
  rfl
theorem straight_wide {x : In} (h : sB x = true) : (x.op == 24) = false := by
  cases e : (x.op == 24)
  · rfl
  · have : x.op = 24 := by simpa using e
    unfold sB at h
    rw [this] at h
    exact absurd h (by decide)
def straightP (l : List In) : List In := l.filter sB ++ [exI]
theorem straight_sec (l : List In) : ∀ i, i < (straightP l).length → (secL (straightP l))[i]? = some false := no_wide fun x hx => by
  unfold straightP at hx
  rcases List.mem_append.1 hx with hx | hx
  · exact straight_wide (List.mem_filter.1 hx).2
  · rw [List.mem_singleton.1 hx]
    rfl
theorem straight_fix {l : List In} {L : List Nat} (h : LiveIs (straightP l) L) {i : Nat} {x : In} (hx : (straightP l)[i]? = some x) :
    L[i]? = some (lessN (L.getD (i + 1) 0) (writesN x) ||| readsN x) := by
  have hi := (List.getElem?_eq_some_iff.1 hx).1
  rw [h.fix i x hx (straight_sec l i hi)]
  congr 1
  unfold newN
  rw [Nat.or_comm]
  congr 1
  congr 1
  by_cases hlt : i < (l.filter sB).length
  · have hs : sB x = true := by
      unfold straightP at hx
      rw [List.getElem?_append_left hlt] at hx
      exact (List.mem_filter.1 (List.mem_of_getElem? hx)).2
    rw [straight_next hs]
    show L.getD ((i : Int) + 1).toNat 0 ||| 0 = _
    rw [Nat.or_zero, show ((i : Int) + 1).toNat = i + 1 from by omega]
  · have hl : (straightP l).length = (l.filter sB).length + 1 := by simp [straightP]
    have hie : i = (l.filter sB).length := by omega
    have hxe : x = exI := by
      unfold straightP at hx
      rw [List.getElem?_append_right (by omega), hie, Nat.sub_self] at hx
      simpa using hx.symm
    subst hxe
    rw [List.getD_eq_getElem?_getD, List.getElem?_eq_none (by rw [h.len]; omega)]
    rfl
theorem straight_ok {l : List In} (h : ∀ x ∈ l, InOk x) (hl : l.length ≤ 60) : InsOk (straightP l) := ⟨by
  have := List.length_filter_le sB l
  simp [straightP]
  omega, fun x hx => by
  rcases List.mem_append.1 hx with hx | hx
  · exact h x (List.mem_filter.1 hx).1
  · rw [List.mem_singleton.1 hx]
    exact exI_ok⟩
theorem filt_more {l : List In} {j : Nat} {x : In} (hx : l[j]? = some x) (h : sB x = true) : (l.take (j + 1)).filter sB = (l.take j).filter sB ++ [x] := by
  rw [List.take_add_one, hx, List.filter_append]
  simp [h]
theorem filt_same {l : List In} {j : Nat} {x : In} (hx : l[j]? = some x) (h : sB x = false) : (l.take (j + 1)).filter sB = (l.take j).filter sB := by
  rw [List.take_add_one, hx, List.filter_append]
  simp [h]
set_option maxHeartbeats 16000000 in
set_option maxRecDepth 100000 in
theorem walk_straight (l : List In) (a : Option Addr) (c : Nat) (w : World) (h : Ins w (.slice a l.length c) l) (hokx : ∀ x ∈ l, InOk x) :
    Calls Try.prog 5 #[.slice a l.length c] w fun e w' => e = .returned (.bool true) ∧ Kept (fun _ => False) w w' := by
  have HKW := Lib.hid (fun W => known_any W)
  by_cases h60 : 60 < l.length
  · have hd : decide ((60 : Int) < l.length) = true := decide_eq_true (by omega)
    clear h60 h hokx
    go_enter Try.func5, Try.ntmps5
    go_wp2_with fail
    refine (HKW.out _).mono ?_
    rintro e w1 ⟨rfl, hk1⟩
    go_wp2_with fail
    go_ret
    exact ⟨rfl, hk1⟩
  · have hd : decide ((60 : Int) < l.length) = false := decide_eq_false (by omega)
    have HL60 : Hid (l.length ≤ 60) := Lib.hid (by omega)
    have hl60 : l.length ≤ 60 := by omega
    have HIN := Lib.hid (fun (W : World) (hk : Kept (fun _ => False) w W) => h.kept hk)
    have HPL : Hid (∀ j, ((l.take j).filter sB).length ≤ 60) := Lib.hid (fun j => by
      have h1 := List.length_filter_le sB (l.take j)
      have h2 := List.length_take_le' j l
      omega)
    obtain ⟨i0, hI0, hI1, hI2, hI3⟩ := info_parts infoIn
    clear h60 h
    go_enter Try.func5, Try.ntmps5
    go_wp2_with fail
    refine (HKW.out _).mono ?_
    rintro e w1 ⟨rfl, hk1⟩
    go_wp2_with fail
    go_loopw [3, 4] (fun pv iv wr => ∃ j : Nat, iv = .int .i64 j ∧ j ≤ l.length ∧ InS wr pv ((l.take j).filter sB) ∧ (∀ g, pv.ownBlock = some g → w.heap.size ≤ g) ∧ Kept (fun _ => False) w wr) (fun _ iv _ => l.length - (intOf iv).toNat)
    case atStart => exact ⟨0, rfl, by omega, Sl.nil _ _ _, fun g hg => by simp [Value.ownBlock] at hg, hk1⟩
    case round =>
      clear hk1
      obtain ⟨j, rfl, hj, hP, hown, hK⟩ := hrel
      by_cases hlt : j < l.length
      case pos =>
        have hjd : decide ((j : Int) < l.length) = true := decide_eq_true (by omega)
        obtain ⟨x, hx⟩ : ∃ x, l[j]? = some x := ⟨_, List.getElem?_eq_getElem hlt⟩
        have hxo := hokx x (List.mem_of_getElem? hx)
        have hop := hxo.op
        obtain ⟨lg, lo, hla, hlg, c0, c1, c2, c3, c4⟩ := (HIN.out _ hK).at_ hx
        subst hla
        have hlw := hP
        have hcs : x.op % 8 = 0 ∨ x.op % 8 = 1 ∨ x.op % 8 = 2 ∨ x.op % 8 = 3 ∨ x.op % 8 = 4 ∨ x.op % 8 = 5 ∨ x.op % 8 = 6 ∨ x.op % 8 = 7 := by omega
        have HMO := Lib.hid (fun hs => filt_more hx (x := x) hs)
        have HSA := Lib.hid (fun hs => filt_same hx (x := x) hs)
        clear hx hlw
        rcases hcs with hcl | hcl | hcl | hcl | hcl | hcl | hcl | hcl
        all_goals
          have hs : sB x = sB x := rfl
          first
            | (have hsb : sB x = false := by unfold sB; rw [hcl]; rfl
               have HN := Lib.hid (HSA.out hsb)
               clear hsb hs
               go_wp2_with fail
               go_roundw
               case rel => exact ⟨j + 1, by go_num, by omega, by rw [HN.out]; exact hP, hown, hK⟩
               case measure => (simp [intOf]; try omega))
            | (have hsb : sB x = true := by unfold sB; rw [hcl]; rfl
               have HN := Lib.hid (HMO.out hsb)
               clear hsb hs
               go_wp2_with (at_builtin; refine wpList_push (w := wr) rfl (.tmp 49) (.tmp 54) 27 rfl Try.underlying27 hI0 hI1 hI2 hI3 rfl (by omega) _ (((l.take j).filter sB).map icells) (icells x) rfl rfl hP rfl (by simp [icells, Value.oneCell']) (by rw [List.length_map]; have := HPL.out j; omega) (by omega) ?_; intro g5 cap5 w5 hS5 hk5 hg5)
               have hS6 : InS w5 (.slice (some ⟨g5, 0, none⟩) (((l.take j).filter sB).length + 1) cap5) (((l.take j).filter sB) ++ [x]) := by
                 rw [List.length_map] at hS5
                 show Sl _ _ _ _ ((_ ++ [x]).map icells)
                 rw [List.map_append]
                 exact hS5
               go_roundw
               case rel => exact ⟨j + 1, by go_num, by omega, by rw [HN.out]; exact hS6, fun g hg => by
                 have e : g5 = g := Option.some.inj hg
                 subst e
                 rcases hg5 with h | h
                 · exact hown _ h
                 · have := hK.size
                   omega, hK.trans hk5 (fun k hk e => by have := hown k e; omega)⟩
               case measure => (simp [intOf]; try omega))
      case neg =>
        obtain rfl : j = l.length := by omega
        have hjd : decide ((l.length : Int) < l.length) = false := decide_eq_false (by omega)
        rw [List.take_length] at hP
        have hP0 := hP
        have HPL2 : Hid ((l.filter sB).length ≤ 60) := Lib.hid (by have := HPL.out l.length; rw [List.take_length] at this; exact this)
        have hPk := straight_ok hokx hl60
        have hPe : straightP l = l.filter sB ++ [exI] := rfl
        have hPn : (straightP l).length = (l.filter sB).length + 1 := by simp [straightP]
        have HLV := Lib.hid (fun ad cc W hW => lLive_any (straightP l) ad cc W hW hPk)
        have HFX := Lib.hid (fun L hL i x hx => straight_fix (l := l) (L := L) hL (i := i) (x := x) hx)
        have HSE := Lib.hid (straight_sec l)
        have HPK := Lib.hid hPk
        have HPE := Lib.hid hPe
        have HPN := Lib.hid hPn
        clear hPk hPe hP hl60 hPn hlt hj
        go_wp2_with (at_builtin; refine wpList_push (w := wr) rfl (.tmp 56) (.tmp 58) 27 rfl Try.underlying27 hI0 hI1 hI2 hI3 rfl (by omega) _ ((l.filter sB).map icells) (icells exI) rfl rfl hP0 rfl (by simp [icells, exI, Value.oneCell']) (by rw [List.length_map]; have := HPL2.out; omega) (by omega) ?_; intro g5 cap5 w5 hS5 hk5 hg5)
        have hS6 : InS w5 (.slice (some ⟨g5, 0, none⟩) (straightP l).length cap5) (straightP l) := by
          rw [HPN.out]
          rw [List.length_map] at hS5
          show Sl _ _ _ _ ((straightP l).map icells)
          rw [HPE.out, List.map_append]
          exact hS5
        have hK5 : Kept (fun _ => False) w w5 := hK.trans hk5 (fun k hk e => by have := hown k e; omega)
        have hpl : (straightP l).length ≤ 61 := by have := HPL2.out; have := HPN.out; omega
        have hp1 : 1 ≤ (straightP l).length := by have := HPN.out; omega
        rw [← HPN.out]
        clear hP0 hS5 hk5 hg5 hown hK HPL HPL2 HPN HPE HL60
        generalize straightP l = P at *
        have HS := Lib.hid hS6
        go_wp2_with fail
        refine (HLV.out _ _ _ hS6.ins).mono ?_
        rintro e w6 ⟨lv, rfl, hlv, hln, hk6, -⟩
        have hK6 := hK5.trans hk6 (fun _ _ h => h)
        by_cases hz : checkI P = 0
        case neg =>
          have hzd : (checkI P != 0) = true := by simpa using hz
          have hln := hln hz
          subst hln
          clear hlv hz
          go_wp2_with fail
          go_ret
          exact ⟨rfl, hK6⟩
        case pos =>
          obtain ⟨L, hL, hU⟩ := hlv hz
          have HRI := Lib.hid (fun i x hx hs => right_of (l := P) hz (i := i) (x := x) hx hs)
          rw [hz]
          have HLV2 := Lib.hid hL
          obtain ⟨vg, vc, rfl, hvl, hvg⟩ := Sl.some_ hU (by rw [List.length_map, hL.len]; omega)
          rw [List.length_map, hL.len] at *
          clear hlv hln hL hz hvl HLV
          go_wp2_with fail
          go_loopw [8, 9] (fun nv iv wr => ∃ k : Int, iv = .int .i64 k ∧ -1 ≤ k ∧ k < P.length ∧ nv = .int .u16 (L.getD (k + 1).toNat 0) ∧ Kept (fun _ => False) w6 wr) (fun _ iv _ => (intOf iv + 1).toNat)
          case atStart => exact ⟨(P.length : Int) - 1, by go_num, by omega, by omega, by
            rw [show ((P.length : Int) - 1 + 1).toNat = P.length from by omega, List.getD_eq_getElem?_getD, List.getElem?_eq_none (by rw [HLV2.out.len]; omega)]
            rfl, Kept.refl _ _⟩
          case round =>
            obtain ⟨k, rfl, hk1, hk2, rfl, hK⟩ := hrel
            by_cases hk : k < 0
            case pos =>
              have hkd : decide (0 ≤ k) = false := decide_eq_false (by omega)
              go_wp2_with fail
              go_ret
              exact ⟨rfl, hK6.trans hK (fun _ _ h => h)⟩
            case neg =>
              obtain ⟨i, rfl⟩ : ∃ i : Nat, k = i := ⟨k.toNat, by omega⟩
              have hkd : decide (0 ≤ (i : Int)) = true := decide_eq_true (by omega)
              have hil : i < P.length := by omega
              obtain ⟨x, hx⟩ : ∃ x, P[i]? = some x := ⟨_, List.getElem?_eq_getElem hil⟩
              have hxo := HPK.out.at_ hx
              have hri := HRI.out i x hx (HSE.out i hil)
              obtain ⟨hd10, hs10⟩ := rightB_regs hri
              have er : readsR x = readsN x := by unfold readsR; rw [if_pos hri]
              have ew : writesR x = writesN x := by unfold writesR; rw [if_pos hri]
              have HRD := Lib.hid (fun W => lReads_any x W hxo)
              have HWR := Lib.hid (fun W => lWrites_any x W hxo)
              rw [er, hri] at HRD
              rw [ew, hri] at HWR
              have hfx := HFX.out L HLV2.out i x hx
              have hnl : L.getD (i + 1) 0 < 65536 := by
                rw [List.getD_eq_getElem?_getD]
                cases e : L[i + 1]? with
                | none => simp
                | some v => exact HLV2.out.lt v (List.mem_of_getElem? e)
              have hls := bits_less_u16_nat hnl (writesN_lt x hd10)
              have hor := bits_or_u16_nat (less_lt (b := writesN x) hnl) (readsN_lt x hd10 hs10)
              have hvU : U16s wr (.slice (some ⟨vg, 0, none⟩) P.length vc) L := Sl.kept hK hU (fun _ _ h => h)
              rw [show ((i : Int) + 1).toNat = i + 1 from by omega]
              have HSI : Hid (∀ W, Kept (fun _ => False) wr W → InS W (.slice (some ⟨g5, 0, none⟩) P.length cap5) P) := Lib.hid (fun W hk => Sl.kept ((hk6.trans hK (fun _ _ h => h)).trans hk (fun _ _ h => h)) HS.out (fun _ _ h => h))
              have HCX : Hid (∀ W, Kept (fun _ => False) wr W → ∀ (k : Nat) (u : Value), (icells x)[k]? = some u → k < 5 → W.cell? ⟨g5, i * 5 + k, none⟩ = some u) := Lib.hid (fun W hk k u hu h5 => by
                rw [Sl.cell (HSI.out W hk) (i := i) (c := icells x) (by rw [List.getElem?_map, hx]; rfl) h5]
                exact hu)
              have HGX : Hid (L.getD i 0 = lessN (L.getD (i + 1) 0) (writesN x) ||| readsN x) := Lib.hid (by rw [List.getD_eq_getElem?_getD, hfx]; rfl)
              generalize hnw : lessN (L.getD (i + 1) 0) (writesN x) ||| readsN x = nw at *
              generalize hrd : readsN x = rd at *
              generalize hwd : writesN x = wd at *
              generalize hnx : L.getD (i + 1) 0 = now at *
              have HFXX := Lib.hid hfx
              clear hx hri er ew hfx hnl hnw hrd hwd hnx
              have c0 : wr.cell? ⟨g5, i * 5, none⟩ = some (.int .u8 x.op) := HCX.out wr (Kept.refl _ _) 0 _ rfl (by omega)
              have c1 : wr.cell? ⟨g5, i * 5 + 1, none⟩ = some (.int .u8 x.dst) := HCX.out wr (Kept.refl _ _) 1 _ rfl (by omega)
              have c2 : wr.cell? ⟨g5, i * 5 + 2, none⟩ = some (.int .u8 x.src) := HCX.out wr (Kept.refl _ _) 2 _ rfl (by omega)
              have c3 : wr.cell? ⟨g5, i * 5 + 3, none⟩ = some (.int .i16 x.off) := HCX.out wr (Kept.refl _ _) 3 _ rfl (by omega)
              have c4 : wr.cell? ⟨g5, i * 5 + 4, none⟩ = some (.int .i32 x.imm) := HCX.out wr (Kept.refl _ _) 4 _ rfl (by omega)
              go_wp2_with fail
              refine (HRD.out _).mono ?_
              rintro e w8 ⟨rfl, hk8⟩
              clear c0 c1 c2 c3 c4
              have c0 : w8.cell? ⟨g5, i * 5, none⟩ = some (.int .u8 x.op) := HCX.out _ hk8 0 _ rfl (by omega)
              have c1 : w8.cell? ⟨g5, i * 5 + 1, none⟩ = some (.int .u8 x.dst) := HCX.out _ hk8 1 _ rfl (by omega)
              have c2 : w8.cell? ⟨g5, i * 5 + 2, none⟩ = some (.int .u8 x.src) := HCX.out _ hk8 2 _ rfl (by omega)
              have c3 : w8.cell? ⟨g5, i * 5 + 3, none⟩ = some (.int .i16 x.off) := HCX.out _ hk8 3 _ rfl (by omega)
              have c4 : w8.cell? ⟨g5, i * 5 + 4, none⟩ = some (.int .i32 x.imm) := HCX.out _ hk8 4 _ rfl (by omega)
              go_wp2_with fail
              refine (HWR.out _).mono ?_
              rintro e w9 ⟨rfl, hk9⟩
              have hK9 := (hK.trans hk8 (fun _ _ h => h)).trans hk9 (fun _ _ h => h)
              have hvc := U16s.cell (Sl.kept hk9 (Sl.kept hk8 hvU (fun _ _ h => h)) (fun _ _ h => h)) HFXX.out
              have hee : ((nw : Int) != (nw : Int)) = false := by simp
              clear c0 c1 c2 c3 c4
              go_wp2_with fail
              go_roundw
              case rel => exact ⟨(i : Int) - 1, by go_num, by omega, by omega, by rw [show ((i : Int) - 1 + 1).toNat = i from by omega, HGX.out], hK9⟩
              case measure => (simp [intOf]; try omega)

end Go.Proofs.Ytopdoanfpjaehaa
