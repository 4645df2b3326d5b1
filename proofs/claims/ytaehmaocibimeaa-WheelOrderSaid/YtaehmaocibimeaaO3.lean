import Derived.Test.YtaehmaocibimeaaO2
set_option linter.unusedSimpArgs false
set_option linter.unusedVariables false
namespace Go.Proofs.Ytaehmaocibimeaa
open Go.RowKit

structure Ord (w0 w : World) (p m : Nat) (v : Value) (S : WS) (bw bo : Nat) (wh od : Nat → Int) : Prop where
  one : One w0 w p m v S
  aw : Arr w bw wh
  ao : Arr w bo od
  ne : bw ≠ bo
  nw : ¬ fpW p m v S bw
  no : ¬ fpW p m v S bo
  lw : w0.heap.size ≤ bw
  lo : w0.heap.size ≤ bo

section
variable {w0 w w' : World} {p m bw bo : Nat} {v v' : Value} {S S' : WS} {wh od : Nat → Int}
theorem Ord.step (h : Ord w0 w p m v S bw bo wh od) (hs : Stp w p m v S w' v' S') : Ord w0 w' p m v' S' bw bo wh od := by
  have h1 := Blk.lt h.aw
  have h2 := Blk.lt h.ao
  exact ⟨h.one.step hs, hs.kept.blk h.nw h.aw, hs.kept.blk h.no h.ao, h.ne, fun e => by rcases hs.fp _ e with e | e; exact h.nw e; omega, fun e => by rcases hs.fp _ e with e | e; exact h.no e; omega, h.lw, h.lo⟩
theorem Ord.drewN (h : Ord w0 w p m v S bw bo wh od) (n : Nat) : Ord w0 (w.drewN n) p m v S bw bo wh od :=
  ⟨⟨h.one.isw.drewN n, h.one.fp, h.one.kept.drewN n⟩, h.aw, h.ao, h.ne, h.nw, h.no, h.lw, h.lo⟩
theorem Ord.setW (h : Ord w0 w p m v S bw bo wh od) {k : Nat} (hk : k < 8) (u : Int) : Ord w0 (w.setCell ⟨bw, k, none⟩ (.int .i64 u)) p m v S bw bo (fun j => if j = k then u else wh j) od := by
  have hkk : Kept (fun x => x = bw) w (w.setCell ⟨bw, k, none⟩ (.int .i64 u)) := Kept.setCell (F := fun x => x = bw) (Kept.refl _ w) (fun _ => rfl) _
  exact ⟨h.one.other hkk (fun x _ e => by subst e; exact ⟨h.nw, h.lw⟩), h.aw.set hk u, hkk.blk (fun e => h.ne e.symm) h.ao, h.ne, h.nw, h.no, h.lw, h.lo⟩
theorem Ord.setO (h : Ord w0 w p m v S bw bo wh od) {k : Nat} (hk : k < 8) (u : Int) : Ord w0 (w.setCell ⟨bo, k, none⟩ (.int .i64 u)) p m v S bw bo wh (fun j => if j = k then u else od j) := by
  have hkk : Kept (fun x => x = bo) w (w.setCell ⟨bo, k, none⟩ (.int .i64 u)) := Kept.setCell (F := fun x => x = bo) (Kept.refl _ w) (fun _ => rfl) _
  exact ⟨h.one.other hkk (fun x _ e => by subst e; exact ⟨h.no, h.lo⟩), hkk.blk (fun e => h.ne e) h.aw, h.ao.set hk u, h.ne, h.nw, h.no, h.lw, h.lo⟩
end

set_option maxHeartbeats 1000000 in
set_option maxRecDepth 100000 in
theorem order_long (A B : Option Addr) (na ca nb cb : Nat) (w : World) (h : 40 < na ∨ nb < na) (ha : na ≤ maxLen) (hb : nb ≤ maxLen) :
    Calls Try.prog 4 #[.slice A na ca, .slice B nb cb] w fun e w' => e = .returned (.bool true) ∧ Below w.heap.size w w' := by
  unfold maxLen at ha hb
  by_cases h1 : 40 < na
  · go_enter Try.func4, Try.ntmps4
    go_wp2_with (go_at_call 6; refine (known_any w).mono ?_; rintro e w1 ⟨rfl, hk1⟩)
    go_ret
    exact ⟨rfl, hk1.below (Nat.le_refl _) (fun _ _ h => h)⟩
  · have h2 : nb < na := by omega
    have h1' : na ≤ 40 := by omega
    clear h
    go_enter Try.func4, Try.ntmps4
    go_wp2_with (go_at_call 6; refine (known_any w).mono ?_; rintro e w1 ⟨rfl, hk1⟩)
    go_ret
    exact ⟨rfl, hk1.below (Nat.le_refl _) (fun _ _ h => h)⟩

theorem Ord.made {w0 w : World} {p m : Nat} {v : Value} {S : WS} (h : One w0 w p m v S) {n1 : Nat} (h1 : n1 = w.heap.size) :
    Ord w0 ((w.alloc (.cells #[.int .i64 0, .int .i64 0, .int .i64 0, .int .i64 0, .int .i64 0, .int .i64 0, .int .i64 0, .int .i64 0] 40)).alloc (.cells #[.int .i64 0, .int .i64 0, .int .i64 0, .int .i64 0, .int .i64 0, .int .i64 0, .int .i64 0, .int .i64 0] 40)) p m v S n1 (n1 + 1) (fun _ => 0) (fun _ => 0) := by
  subst h1
  have hs := h.kept.size
  have hka := Kept.alloc (F := fun _ => False) (Kept.refl _ w) (.cells #[.int .i64 0, .int .i64 0, .int .i64 0, .int .i64 0, .int .i64 0, .int .i64 0, .int .i64 0, .int .i64 0] 40)
  have hkb := Kept.alloc hka (.cells #[.int .i64 0, .int .i64 0, .int .i64 0, .int .i64 0, .int .i64 0, .int .i64 0, .int .i64 0, .int .i64 0] 40)
  refine ⟨h.other hkb (fun _ _ h => h.elim), ?_, ?_, by omega, fun e => by have := h.isw.fp_lt e; omega, fun e => by have := h.isw.fp_lt e; omega, hs, by omega⟩
  · exact (Blk.new w 40 _).alloc _
  · have := Blk.new (w.alloc (.cells #[.int .i64 0, .int .i64 0, .int .i64 0, .int .i64 0, .int .i64 0, .int .i64 0, .int .i64 0, .int .i64 0] 40)) 40 #[.int .i64 0, .int .i64 0, .int .i64 0, .int .i64 0, .int .i64 0, .int .i64 0, .int .i64 0, .int .i64 0]
    have e : (w.alloc (.cells #[.int .i64 0, .int .i64 0, .int .i64 0, .int .i64 0, .int .i64 0, .int .i64 0, .int .i64 0, .int .i64 0] 40)).heap.size = w.heap.size + 1 := by simp
    rw [e] at this
    exact this

set_option maxHeartbeats 4000000 in
set_option maxRecDepth 100000 in
theorem order_walk (A B : Option Addr) (na ca nb cb : Nat) (f y : Nat → Int) (w : World) (hA : InSl .u8 256 w A na f) (hB : InSl .u8 256 w B nb y) (h1 : na ≤ 40) (h2 : na ≤ nb) (h3 : nb ≤ maxLen) :
    Calls Try.prog 4 #[.slice A na ca, .slice B nb cb] w fun e w' => e = .returned (.bool true) ∧ Below w.heap.size w w' := by
  unfold maxLen at h3
  go_enter Try.func4, Try.ntmps4
  go_wp2_with fail
  refine (known_any w).mono ?_
  rintro e w1 ⟨rfl, hk1⟩
  go_wp2_with fail
  refine (new_one w w1 hk1).mono ?_
  rintro e w2 ⟨p, m, rfl, hT⟩
  clear hk1
  go_wp2_with fail
  go_loopw [6] (fun iv wr => ∃ (k : Nat) (v : Value) (S : WS), iv = .int .i64 k ∧ k ≤ 8 ∧ One w wr p m v S ∧ Inv0 k S) (fun iv _ => 8 - (intOf iv).toNat)
  case atStart => exact ⟨0, _, _, rfl, Nat.zero_le _, hT, ⟨HV.empty, rfl, rfl, fun j hj => by omega, fun id g t hl => by cases hl⟩⟩
  case round =>
    clear hT
    obtain ⟨k, v, S, rfl, hk, hT, hI⟩ := hrel
    have HI := Lib.hid hI
    clear hI
    by_cases hlt : k < 8
    case neg =>
      obtain rfl : k = 8 := by omega
      go_wp2_with fail
      have hO := Ord.made hT (n1 := wr.heap.size) rfl
      generalize hbo : wr.heap.size + 1 = bo at *
      generalize hbw : wr.heap.size = bw at *
      have hI8 := HI.out.inv
      have HI8 := Lib.hid hI8
      clear hI8 hT hbo hbw
      go_loopw [9] (fun iv wr => ∃ (i : Nat) (v : Value) (S : WS) (tm : Nat → Tm) (wh od : Nat → Int), iv = .int .i64 i ∧ i ≤ na ∧ Ord w wr p m v S bw bo wh od ∧ Inv i S tm wh od) (fun iv _ => na - (intOf iv).toNat)
      case atStart => exact ⟨0, v, S, _, _, _, rfl, Nat.zero_le _, hO, HI8.out⟩
      case round =>
        clear hO HI8 HI
        obtain ⟨i, v, S, tm, wh, od, rfl, hi, hO, hI⟩ := hrel
        have HI := Lib.hid hI
        clear hI
        by_cases hlt2 : i < na
        case neg =>
          obtain rfl : i = na := by omega
          go_wp2_with fail
          have hst := HI.out.starts
          have hnow := HI.out.now
          refine (stp_tick p m v S 10 wr hO.one.isw HI.out.hv (by omega) (by omega)).mono ?_
          rintro e w3 ⟨ov, v3, S3, ys, rfl, hOv, hOvb, hS3, hys1, hys2, hlook3, hv3, hn3, hs3, hlen3⟩
          have hO3 := hO.step hS3
          have hfin := HI.out.fin hys1 hys2
          have hz3 : ∀ id g t, lookI S3.all id = some (g, t) → t.start = 0 := off_none hlook3 (fun id g t hl hp => by
            obtain ⟨k, hk, rfl⟩ := HI.out.only id g t hl
            obtain ⟨g', hl'⟩ := HI.out.look k hk
            rw [hl] at hl'
            simp only [Option.some.injEq, Prod.mk.injEq] at hl'
            have h1 := (HI.out.tms k hk).2.2.2
            have h2 := HI.out.rng k hk
            rw [hl'.2] at hp ⊢
            omega) (fun id g t hl => (HI.out.hv.l.ids id g t hl).2)
          have HFIN := Lib.hid hfin
          have HV3 := Lib.hid hv3
          have HZ3 := Lib.hid hz3
          clear hfin hv3 hz3 hlook3 hys1 hys2 hn3 hs3 hst hnow hlen3
          obtain ⟨A3, c3, rfl⟩ := hOv.any
          simp only [List.length_map] at hOv hOvb ⊢
          go_wp2_with fail
          refine (armed_any p m v3 S3 w3 hO3.one.isw).mono ?_
          rintro e w4 ⟨av, outs4, rfl, hA4, hA4b, hAr, hk4⟩
          have hnil := arms_none hAr HV3.out HZ3.out
          subst hnil
          obtain ⟨A4, c4, rfl⟩ := hA4.any
          simp only [List.map_nil, List.length_nil] at hA4 hA4b ⊢
          have hO4 : Ord w w4 p m v3 S3 bw bo wh od := ⟨hO3.one.other hk4 (fun _ _ h => h.elim), hk4.blk (fun h => h) hO3.aw, hk4.blk (fun h => h) hO3.ao, hO3.ne, hO3.nw, hO3.no, hO3.lw, hO3.lo⟩
          have hOv4 := hOv.kept hk4 (fun _ _ h => h)
          clear hAr hA4 hA4b hOv
          go_wp2_with fail
          go_loopw [15, 16] (fun nv kv wr => ∃ k : Nat, nv = .int .i64 (cntO od k) ∧ kv = .int .i64 k ∧ k ≤ 8 ∧ wr = w4) (fun _ kv _ => 8 - (intOf kv).toNat)
          case atStart => exact ⟨0, rfl, rfl, Nat.zero_le _, rfl⟩
          case round =>
            obtain ⟨k, rfl, rfl, hk, rfl⟩ := hrel
            by_cases hlt3 : k < 8
            case pos =>
              have hck := hO4.ao.cell hlt3
              have hcs := cntO_succ od k
              have hcl := cntO_le od k
              by_cases hpos : 0 < od k
              · rw [if_pos hpos] at hcs
                have HCS := Lib.hid hcs
                clear hcs
                go_wp2_with fail
                go_roundw
                case rel =>
                  exact ⟨k + 1, by rw [HCS.out]; go_num, by go_num, by omega, trivial⟩
                case measure => simp [intOf]; omega
              · rw [if_neg hpos] at hcs
                have HCS := Lib.hid hcs
                clear hcs
                go_wp2_with fail
                go_roundw
                case rel =>
                  exact ⟨k + 1, by rw [HCS.out]; go_num, by go_num, by omega, trivial⟩
                case measure => simp [intOf]; omega
            case neg =>
              obtain rfl : k = 8 := by omega
              have hcl := cntO_le od 8
              rw [← HFIN.out.len] at hcl ⊢
              go_wp2_with fail
              go_loopw [17] (fun qv wq => ∃ q n : Nat, qv = .int .i64 q ∧ q ≤ ys.length ∧ wq = wr.drewN n) (fun qv _ => ys.length - (intOf qv).toNat)
              case atStart => exact ⟨0, 0, rfl, Nat.zero_le _, rfl⟩
              case round =>
                obtain ⟨q, n, rfl, hq, rfl⟩ := hrel
                by_cases hltq : q < ys.length
                case neg =>
                  obtain rfl : q = ys.length := by omega
                  go_wp2_with fail
                  go_ret
                  refine ⟨rfl, ?_⟩
                  exact (hO4.one.kept.drewN n).below (Nat.le_refl _) (fun _ _ h => h)
                case pos =>
                  obtain ⟨k, hk8, hfd, hok⟩ := HFIN.out.at_ q hltq
                  obtain ⟨g2, cc2, hv2, _, _⟩ := hOv4.some_ (by simp; omega)
                  simp only [Value.slice.injEq] at hv2
                  obtain ⟨rfl, -, rfl⟩ := hv2
                  have hqm : q < (ys.map Tm.fd).length := by simpa using hltq
                  obtain ⟨x0, x1, x2, x3⟩ := Fd.cellsAt hOv4 hqm
                  rw [List.getElem_map, hfd] at x0 x1 x2 x3
                  simp only at x0 x1 x2 x3
                  have hcw := hO4.aw.cell hk8
                  have hco := hO4.ao.cell hk8
                  have hrk := HI.out.rng k hk8
                  have hd1 : decide ((k : Int) < 0) = false := by simp
                  have hd2 : decide ((7 : Int) < k) = false := by simp; omega
                  have hd3 : (od k == 0) = false := by simp; omega
                  have HOK := Lib.hid hok
                  have HFD := Lib.hid hfd
                  clear hok hfd
                  by_cases hq0 : q = 0
                  case pos =>
                    subst hq0
                    go_wp2_with fail
                    refine wp_region_mix0 [.w, .w, .w, .w, .w, .w, .w, .w, .w, .l, .w, .w, .w, .w, .w, .w, .l, .w, .w, .w, .w, .w, .w, .l, .w, .w, .w, .w] (by kernel_rfl) (by kernel_rfl) ?_
                    repeat (first
                      | (refine mix_w1 ?_; go_big_quiet_step (fail); refine wpQuiet_nil ?_)
                      | (refine mix_l1 rfl ?_; go_big_quiet_step (fail); refine wpQuiet_nil ?_))
                    refine mix_nil ?_
                    go_wp2_with fail
                    exact ⟨⟨1, n + 1, rfl, by omega, rfl⟩, by simp [intOf]; omega⟩
                  case neg =>
                    obtain ⟨r, rfl⟩ : ∃ r, q = r + 1 := ⟨q - 1, by omega⟩
                    obtain ⟨j, hj8, hfdj, hoj⟩ := HFIN.out.at_ r (by omega)
                    have hord := HFIN.out.ord r hltq j k hj8 hk8 (congrArg Fd.id hfdj) (congrArg Fd.id HFD.out)
                    have hrm : r < (ys.map Tm.fd).length := by simp; omega
                    obtain ⟨y0, _, _, _⟩ := Fd.cellsAt hOv4 hrm
                    rw [List.getElem_map, hfdj] at y0
                    simp only at y0
                    have hcwj := hO4.aw.cell hj8
                    have hcoj := hO4.ao.cell hj8
                    have hrj := HI.out.rng j hj8
                    clear hfdj hoj
                    have hd4 : decide (wh k < wh j) = false := by simp; omega
                    have hrn : r < ys.length := by omega
                    by_cases hew : wh j = wh k
                    · have hd5 : (wh j == wh k) = true := by simpa using hew
                      have hd6 : decide (od k ≤ od j) = false := by simp; omega
                      clear hew hord
                      go_wp2_with fail
                      refine wp_region_mix0 [.w, .w, .w, .w, .w, .w, .w, .w, .w, .l, .w, .w, .w, .w, .w, .w, .l, .w, .w, .w, .w, .w, .w, .l, .w, .w, .w, .w] (by kernel_rfl) (by kernel_rfl) ?_
                      repeat (first
                        | (refine mix_w1 ?_; go_big_quiet_step (fail); refine wpQuiet_nil ?_)
                        | (refine mix_l1 rfl ?_; go_big_quiet_step (fail); refine wpQuiet_nil ?_))
                      refine mix_nil ?_
                      go_wp2_with fail
                      refine wp_region_mix0 [.w, .w, .l, .w, .w, .l, .w, .w, .w, .w, .l, .w, .w, .l, .w, .w, .w, .w, .l, .w, .w, .l, .w, .w, .w] (by kernel_rfl) (by kernel_rfl) ?_
                      repeat (first
                        | (refine mix_w1 ?_; go_big_quiet_step (fail); refine wpQuiet_nil ?_)
                        | (refine mix_l1 rfl ?_; go_big_quiet_step (fail); refine wpQuiet_nil ?_))
                      refine mix_nil ?_
                      go_wp2_with fail
                      go_roundw
                      case rel => exact ⟨r + 1 + 1, n + 1 + 1, by go_num, by omega, by rw [← World.drewN_drewN, ← World.drewN_drewN]⟩
                      case measure => simp [intOf]; omega
                    · have hd5 : (wh j == wh k) = false := by simpa using hew
                      clear hew hord
                      go_wp2_with fail
                      refine wp_region_mix0 [.w, .w, .w, .w, .w, .w, .w, .w, .w, .l, .w, .w, .w, .w, .w, .w, .l, .w, .w, .w, .w, .w, .w, .l, .w, .w, .w, .w] (by kernel_rfl) (by kernel_rfl) ?_
                      repeat (first
                        | (refine mix_w1 ?_; go_big_quiet_step (fail); refine wpQuiet_nil ?_)
                        | (refine mix_l1 rfl ?_; go_big_quiet_step (fail); refine wpQuiet_nil ?_))
                      refine mix_nil ?_
                      go_wp2_with fail
                      refine wp_region_mix0 [.w, .w, .l, .w, .w, .l, .w, .w, .w, .w, .l, .w, .w, .l, .w, .w, .w, .w, .l, .w, .w, .l, .w, .w, .w] (by kernel_rfl) (by kernel_rfl) ?_
                      repeat (first
                        | (refine mix_w1 ?_; go_big_quiet_step (fail); refine wpQuiet_nil ?_)
                        | (refine mix_l1 rfl ?_; go_big_quiet_step (fail); refine wpQuiet_nil ?_))
                      refine mix_nil ?_
                      go_wp2_with fail
                      go_roundw
                      case rel => exact ⟨r + 1 + 1, n + 1 + 1, by go_num, by omega, by rw [← World.drewN_drewN, ← World.drewN_drewN]⟩
                      case measure => simp [intOf]; omega
        obtain ⟨b, off, rfl, hbl, hcell⟩ := hA.1 (by omega)
        have hci : wr.cell? ⟨b, off + i, none⟩ = some (.int .u8 (f i)) := (hO.one.kept.cell (p := ⟨b, off + i, none⟩) hbl (fun h => h)).trans (hcell i hlt2)
        obtain ⟨hf0, hf1⟩ := hA.2 i
        obtain ⟨k, hk, hk8⟩ : ∃ k : Nat, f i % 8 = (k : Int) ∧ k < 8 := ⟨(f i % 8).toNat, by omega, by omega⟩
        obtain ⟨g, hl⟩ := HI.out.look k hk8
        have htm := HI.out.tms k hk8
        have hrg := HI.out.rng k hk8
        have HL := Lib.hid hl
        have HTM := Lib.hid htm
        clear hl htm
        by_cases hc : f i / 8 % 5 = 4
        · go_wp2_with fail
          refine (stp_cancel p m v S k wr hO.one.isw HL.out).mono ?_
          rintro e w3 ⟨rfl, hS3⟩
          have hO3 := hO.step hS3
          have hI3 := HI.out.cancel hk8 HL.out
          have hco := hO3.ao.cell hk8
          have hcf := hO3.ao.fro k
          have hdd : decide (0 < (tm k).start) = decide (0 < od k) := by have := HTM.out.2.2.2; congr 1; apply propext; omega
          have HI3 := Lib.hid hI3
          clear hI3
          rw [hdd]
          go_wp2_with fail
          have hO4 := hO3.setO hk8 0
          go_roundw
          case rel =>
            repeat apply Exists.intro
            refine ⟨?_, rfl⟩
            exact ⟨i + 1, _, _, _, _, _, by go_num, by omega, hO4, HI3.out⟩
          case measure => simp [intOf]; omega
        · obtain ⟨b2, off2, rfl, hbl2, hcell2⟩ := hB.1 (by omega)
          have hci2 : wr.cell? ⟨b2, off2 + i, none⟩ = some (.int .u8 (y i)) := (hO.one.kept.cell (p := ⟨b2, off2 + i, none⟩) hbl2 (fun h => h)).trans (hcell2 i (by omega))
          obtain ⟨hy0, hy1⟩ := hB.2 i
          have hin : i < nb := by omega
          have hst := HI.out.starts
          have hnow := HI.out.now
          have hst0 := hO.one.isw.st0
          go_wp2_with fail
          refine (stp_start p m v S k (y i % 6) wr hO.one.isw HL.out HTM.out.2.2.1 (by omega) (by omega) (by omega)).mono ?_
          rintro e w3 ⟨rfl, v3, hS3⟩
          have hO3 := hO.step hS3
          have hI3 := HI.out.start hst0 hk8 HL.out (a := y i % 6) (by omega) (by omega)
          have hci3 : w3.cell? ⟨b2, off2 + i, none⟩ = some (.int .u8 (y i)) := (hO3.one.kept.cell (p := ⟨b2, off2 + i, none⟩) hbl2 (fun h => h)).trans (hcell2 i (by omega))
          have hcw := hO3.aw.cell hk8
          have hcwf := hO3.aw.fro k
          have hcof := hO3.ao.fro k
          have hco := hO3.ao.cell hk8
          have HI3 := Lib.hid hI3
          have hneb := hO.ne
          clear hI3 hst hnow
          go_wp2_with fail
          have hO4 := (hO3.setW hk8 (y i % 6)).setO hk8 ((i + 1 : Nat) : Int)
          go_roundw
          case rel =>
            repeat apply Exists.intro
            refine ⟨?_, rfl⟩
            exact ⟨i + 1, _, _, _, _, _, by go_num, by omega, hO4, HI3.out⟩
          case measure => simp [intOf]; omega
    go_wp2_with fail
    refine (stp_init p m v S k wr hT.isw HI.out.none).mono ?_
    rintro e w3 ⟨rfl, g, hS3⟩
    go_wp2_with fail
    refine (stp_cb p m v _ k k (2 * k) w3 hS3.isw (HI.out.made g)).mono ?_
    rintro e w4 ⟨rfl, hS4⟩
    have hT4 := (hT.step hS3).step hS4
    have HI4 := Lib.hid (HI.out.succ g)
    go_wp2_with fail
    go_roundw
    case rel => exact ⟨k + 1, v, _, by go_num, by omega, hT4, HI4.out⟩
    case measure => simp [intOf]; omega

end Go.Proofs.Ytaehmaocibimeaa
