import Derived.Test.YtmgdjiplpfeoiaaDoorTz
set_option linter.unusedSimpArgs false
set_option linter.unusedVariables false
namespace Go.Proofs.YtmgdjiplpfeoiaaDoor
open Go.RowKit

theorem lookS_upd {α : Type} {x k : List UInt8} {u : α} : ∀ {L : List (List UInt8 × α)}, lookS (updS L x u) k = if x = k then some u else lookS L k
  | [] => by simp [updS, lookS]
  | (a, b) :: r => by
    simp only [updS]
    by_cases e : a = x
    · subst e
      simp only [if_true, lookS]
      split <;> rfl
    · rw [if_neg e]
      simp only [lookS]
      rw [lookS_upd]
      by_cases e2 : a = k
      · subst e2
        rw [if_pos rfl, if_pos rfl, if_neg (fun h => e h.symm)]
      · rw [if_neg e2, if_neg e2]
theorem zeroEmpty : ∀ w, (zeroValue 92).run Tryd.prog w = .ok (.agg #[]) w := fun w => by kernel_rfl
theorem look_agg {L : List (List UInt8 × Value)} (h : ∀ y ∈ L, y.2 = .agg #[]) (k : List UInt8) : (lookS L k).getD (.agg #[]) = .agg #[] := by
  induction L with
  | nil => rfl
  | cons y r ih =>
    obtain ⟨a, b⟩ := y
    simp only [lookS]
    split
    · exact h (a, b) (List.mem_cons_self ..)
    · exact ih (fun y hy => h y (List.mem_cons_of_mem _ hy))
theorem upd_agg {L : List (List UInt8 × Value)} (h : ∀ y ∈ L, y.2 = .agg #[]) (k : List UInt8) : ∀ y ∈ updS L k (.agg #[]), y.2 = .agg #[] := by
  induction L with
  | nil => simp [updS]
  | cons y r ih =>
    obtain ⟨a, b⟩ := y
    simp only [updS]
    split
    · intro z hz
      rcases List.mem_cons.1 hz with rfl | hz
      · rfl
      · exact h z (List.mem_cons_of_mem _ hz)
    · intro z hz
      rcases List.mem_cons.1 hz with rfl | hz
      · exact h _ (List.mem_cons_self ..)
      · exact ih (fun y hy => h y (List.mem_cons_of_mem _ hy)) z hz

set_option maxHeartbeats 2000000 in
set_option maxRecDepth 100000 in
theorem members_any (t : Ty) (ma : Option Addr) (mc : Nat) (w : World) (hm : Mbs w (.slice ma t.mem.length mc) t.mem) (h64 : t.mem.length ≤ 64) (hnm : ∀ m ∈ t.mem, m.name.length ≤ maxLen) :
    Calls Tryd.prog 54 #[.agg (tyVals t (.slice ma t.mem.length mc))] w fun e w' => e = .returned (.bool (membersB t)) ∧ Kept (fun _ => False) w w' := by
  obtain ⟨kind, name, size, signed, to, count, mem⟩ := t
  simp only at hm h64 hnm
  unfold membersB
  simp only
  have hmm := @run_makeMap Tryd.prog
  go_enter Tryd.func54, Tryd.ntmps54
  go_wp2
  go_loopw [13] (fun iv wr => ∃ (i : Nat) (L : List (List UInt8 × Value)), iv = .int .i64 i ∧ i ≤ mem.length ∧ SMap wr (w.heap.size + 1) L ∧ (∀ k, (lookS L k).isSome = (mem.take i).any (fun x => x.name == k)) ∧ (∀ y ∈ L, y.2 = .agg #[]) ∧ ((List.range i).all (memOk kind mem)) = true ∧
    wr.cell? ⟨w.heap.size, 0, none⟩ = some (.int .i64 kind) ∧ Kept (fun _ => False) w wr) (fun iv _ => mem.length - (intOf iv).toNat)
  case atStart =>
    refine ⟨0, [], rfl, Nat.zero_le _, ?_, by simp [lookS], by simp, rfl, ?_, ((Kept.refl _ w).alloc _).alloc _⟩
    · have := SMap.made (w.alloc (.cells (tyVals ⟨kind, name, size, signed, to, count, mem⟩ (.slice ma mem.length mc)) 38))
      rw [alloc_size] at this
      exact this
    · simp
  case round =>
    obtain ⟨i, L, rfl, hi, hS, hL, hag, hall, ck, hK⟩ := hrel
    by_cases hlt : i < mem.length
    case neg =>
      obtain rfl : i = mem.length := by omega
      go_wp2
      go_ret
      exact ⟨by rw [hall]; rfl, hK⟩
    case pos =>
      obtain ⟨m, hmi⟩ : ∃ m, mem[i]? = some m := ⟨_, List.getElem?_eq_getElem hlt⟩
      obtain ⟨g, off, rfl, hg, c0, c1, c2⟩ := (hm.kept hK).at_ hmi
      have hlk : ∀ W, SMap W (w.heap.size + 1) L → (Instr.lookup 103 (.map (some (w.heap.size + 1))) (nV m.name) true).run Tryd.prog W = .ok (.tuple #[.agg #[], .bool (lookS L m.name).isSome]) W := fun W h => by
        have := h.look2 (P := Tryd.prog) Tryd.underlying103 Tryd.underlying9 zeroEmpty m.name
        rw [look_agg hag] at this
        exact this
      have hlk2 := hlk _ (hS.alloc (.cells #[nV m.name, .int .i64 m.type, .int .i64 m.bits] 42))
      have hTL := nV_list m.name
      have hb0 : w.heap.size < wr.heap.size := World.block_lt_of_cell? wr _ ck
      have hmem := List.mem_of_getElem? hmi
      have hok : memOk kind mem i = ((kind == 6 && m.name == []) || ((mem.take i).all (fun x => !(x.name == m.name)) && nameB m.name)) := by unfold memOk; rw [hmi]
      have hnext : ((List.range (i + 1)).all (memOk kind mem)) = memOk kind mem i := by rw [List.range_succ, List.all_append, hall]; simp
      have hany : ((mem.take i).all (fun x => !(x.name == m.name))) = !((mem.take i).any fun x => x.name == m.name) := by
        rw [List.all_eq_not_any_not]
        simp
      have hbad : memOk kind mem i = false → ((List.range mem.length).all (memOk kind mem)) = false := fun h => by
        rw [List.all_eq_false]
        exact ⟨i, List.mem_range.2 hlt, by rw [h]; simp⟩
      have hLn : ∀ k, (lookS (updS L m.name (.agg #[])) k).isSome = (mem.take (i + 1)).any (fun x => x.name == k) := fun k => by
        rw [lookS_upd, List.take_add_one, hmi, List.any_append]
        by_cases e : m.name = k
        · rw [if_pos e]; simp [e]
        · rw [if_neg e, hL k]; simp [e]
      have hkB : Kept (fun _ => False) wr ((wr.alloc (.cells #[nV m.name, .int .i64 m.type, .int .i64 m.bits] 42)).alloc (.cells #[] 92)) := ((Kept.refl _ wr).alloc _).alloc _
      have hSB := hS.kept hkB (fun h => h)
      have HOK := Lib.hid hok
      have HNX := Lib.hid hnext
      have HANY := Lib.hid hany
      have HBAD := Lib.hid hbad
      have HLN := Lib.hid hLn
      clear hok hnext hany hbad hLn
      have hnl := hnm m hmem
      have hfin : ∀ w6, SMap w6 (w.heap.size + 1) (updS L m.name (.agg #[])) → Kept (fun k => k = w.heap.size + 1) ((wr.alloc (.cells #[nV m.name, .int .i64 m.type, .int .i64 m.bits] 42)).alloc (.cells #[] 92)) w6 → w6.cell? ⟨w.heap.size, 0, none⟩ = some (.int .i64 kind) ∧ Kept (fun _ => False) w w6 := fun w6 h6 hk6 => by
        have hk7 : Kept (fun k => k = w.heap.size + 1) wr w6 := (hkB.mono (fun _ _ e => e.elim)).trans hk6 (fun k hk e => e)
        refine ⟨by rw [hk7.cell (p := ⟨w.heap.size, 0, none⟩) hb0 (fun e => by have e : w.heap.size = w.heap.size + 1 := e; omega)]; exact ck, hK.trans hk7 (fun k hk e => by have e : k = w.heap.size + 1 := e; omega)⟩
      by_cases hem : kind = 6 ∧ m.name = []
      · obtain ⟨rfl, hne⟩ := hem
        have hok1 : memOk 6 mem i = true := by rw [HOK.out, hne]; simp
        have hag1 := upd_agg hag m.name
        have hLn1 := HLN.out
        rw [hne] at hlk2 hTL c0 hSB hfin hag1 hLn1
        have HNE := Lib.hid hne
        rw [hne] at *
        clear hne hL
        go_wp2_with (refine wpList_updS rfl (.tmp 43) (.tmp 45) (.tmp 46) 103 rfl Tryd.underlying103 Tryd.underlying9 hSB [] (.agg #[]) rfl rfl rfl ?_; intro w6 h6 hk6)
        obtain ⟨hc6, hK6⟩ := hfin w6 h6 hk6
        exact ⟨⟨i + 1, _, by go_num, by omega, h6, hLn1, hag1, by rw [HNX.out, hok1], hc6, hK6⟩, by simp [intOf]; omega⟩
      · by_cases k6 : kind = 6
        · subst k6
          have hne : (m.name == []) = false := by simpa using hem
          have hTE : (ByteArray.mk #[]).toList = [] := by rw [ByteArray.toList_eq]
          cases hc : ((mem.take i).any fun x => x.name == m.name) with
          | true =>
            have hb : memOk 6 mem i = false := by rw [HOK.out, HANY.out, hc]; simpa using hem
            have hbb := HBAD.out hb
            rw [hL m.name, hc] at hlk2
            clear hL
            go_wp2_with fail
            go_ret
            exact ⟨by first | rfl | (rw [hbb]; rfl), (hK.alloc _).alloc _⟩
          | false =>
            have hok1 : memOk 6 mem i = nameB m.name := by
              rw [HOK.out, HANY.out, hc]
              have : ((6 : Int) == 6 && m.name == []) = false := by simpa using hem
              rw [this]
              simp
            rw [hL m.name, hc] at hlk2
            have hag1 := upd_agg hag m.name
            clear hL
            cases hn : nameB m.name with
            | false =>
              have hbb := HBAD.out (hok1.trans hn)
              go_wp2_with fail
              refine (name_any m.name _ hnl).mono ?_
              rw [hn]
              rintro e w6 ⟨rfl, rfl⟩
              go_wp2_with fail
              go_ret
              exact ⟨by first | rfl | (rw [hbb]; rfl), (hK.alloc _).alloc _⟩
            | true =>
              go_wp2_with fail
              refine (name_any m.name _ hnl).mono ?_
              rw [hn]
              rintro e w6 ⟨rfl, rfl⟩
              go_wp2_with (refine wpList_updS rfl (.tmp 43) (.tmp 45) (.tmp 46) 103 rfl Tryd.underlying103 Tryd.underlying9 hSB m.name (.agg #[]) rfl rfl rfl ?_; intro w6 h6 hk6)
              obtain ⟨hc6, hK6⟩ := hfin w6 h6 hk6
              exact ⟨⟨i + 1, _, by go_num, by omega, h6, HLN.out, hag1, by rw [HNX.out, hok1, hn], hc6, hK6⟩, by simp [intOf]; omega⟩
        · have e6 : (kind == 6) = false := by simpa using k6
          cases hc : ((mem.take i).any fun x => x.name == m.name) with
          | true =>
            have hb : memOk kind mem i = false := by rw [HOK.out, HANY.out, hc]; simpa using hem
            have hbb := HBAD.out hb
            rw [hL m.name, hc] at hlk2
            clear hL
            go_wp2_with fail
            go_ret
            exact ⟨by first | rfl | (rw [hbb]; rfl), (hK.alloc _).alloc _⟩
          | false =>
            have hok1 : memOk kind mem i = nameB m.name := by
              rw [HOK.out, HANY.out, hc]
              have : (kind == 6 && m.name == []) = false := by simpa using hem
              rw [this]
              simp
            rw [hL m.name, hc] at hlk2
            have hag1 := upd_agg hag m.name
            clear hL
            cases hn : nameB m.name with
            | false =>
              have hbb := HBAD.out (hok1.trans hn)
              go_wp2_with fail
              refine (name_any m.name _ hnl).mono ?_
              rw [hn]
              rintro e w6 ⟨rfl, rfl⟩
              go_wp2_with fail
              go_ret
              exact ⟨by first | rfl | (rw [hbb]; rfl), (hK.alloc _).alloc _⟩
            | true =>
              go_wp2_with fail
              refine (name_any m.name _ hnl).mono ?_
              rw [hn]
              rintro e w6 ⟨rfl, rfl⟩
              go_wp2_with (refine wpList_updS rfl (.tmp 43) (.tmp 45) (.tmp 46) 103 rfl Tryd.underlying103 Tryd.underlying9 hSB m.name (.agg #[]) rfl rfl rfl ?_; intro w6 h6 hk6)
              obtain ⟨hc6, hK6⟩ := hfin w6 h6 hk6
              exact ⟨⟨i + 1, _, by go_num, by omega, h6, HLN.out, hag1, by rw [HNX.out, hok1, hn], hc6, hK6⟩, by simp [intOf]; omega⟩

end Go.Proofs.YtmgdjiplpfeoiaaDoor
