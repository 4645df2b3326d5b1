import Derived.Test.YtmgdjiplpfeoiaaDoorYd
import Derived.Test.YtmgdjiplpfeoiaaDoorTx
import Derived.Test.YtmgdjiplpfeoiaaDoorTq
set_option linter.unusedSimpArgs false
set_option linter.unusedVariables false
namespace Go.Proofs.YtmgdjiplpfeoiaaDoor
open Go.RowKit

/-! ### a list's bytes -/
theorem alone_short {l : List Ty} {i : Nat} {t : Ty} (h : aloneC l i t = 0) : t.name.length ≤ 32 ∧ ∀ m ∈ t.mem, m.name.length ≤ 32 := by
  have hx : calledB l i t = true ∧ membersB t = true := by
    unfold aloneC at h
    split at h
    · cases h
    · split at h
      · cases h
      · rename_i h2
        split at h
        · cases h
        · split at h
          · cases h
          · rename_i h4
            exact ⟨by simpa using h2, by simpa using h4⟩
  obtain ⟨hc, hmb⟩ := hx
  refine ⟨?_, fun m hm => ?_⟩
  · unfold calledB at hc
    split at hc
    · simp only [Bool.and_eq_true] at hc
      have h2 := hc.2
      unfold nameB at h2
      simp only [Bool.and_eq_true, decide_eq_true_eq] at h2
      exact h2.1.2
    · have : t.name = [] := by simpa using hc
      rw [this]
      simp
  · obtain ⟨j, hj, e⟩ := List.mem_iff_getElem.1 hm
    unfold membersB at hmb
    rw [List.all_eq_true] at hmb
    have := hmb j (List.mem_range.2 hj)
    unfold memOk at this
    rw [List.getElem?_eq_getElem hj, e] at this
    simp only [Bool.or_eq_true, Bool.and_eq_true, beq_iff_eq] at this
    rcases this with ⟨_, h1⟩ | ⟨_, h2⟩
    · rw [h1]; simp
    · unfold nameB at h2
      simp only [Bool.and_eq_true, decide_eq_true_eq] at h2
      exact h2.1.2
theorem flat_len' {c : Nat} {l : List Mb} (h : ∀ m ∈ l, m.name.length ≤ c) : ((l.map mbB).flatten).length ≤ l.length * (c + 9) := by
  induction l with
  | nil => simp
  | cons m l ih =>
    have h1 : (mbB m).length ≤ c + 9 := by
      have := h m (List.mem_cons_self ..)
      simp [mbB, nmB, b4_len]; omega
    have h2 := ih (fun x hx => h x (List.mem_cons_of_mem _ hx))
    simp only [List.map_cons, List.flatten_cons, List.length_append, List.length_cons]
    rw [Nat.add_one_mul]
    omega
theorem Good.tyB_len {l : List Ty} (hg : Good l) {i : Nat} {t : Ty} (ht : l[i]? = some t) : (tyB t).length ≤ 3000 := by
  obtain ⟨h1, h2⟩ := alone_short (hg.alone i t ht)
  have h3 := hg.fit.mem t (List.mem_of_getElem? ht)
  have h4 := flat_len' h2
  simp [tyB, hdB, n3B, nmB, b4_len] at *
  omega
def listB (l : List Ty) : List UInt8 := b4 l.length ++ (l.map tyB).flatten
noncomputable def encB (l : List Ty) : List UInt8 := if (checkL l).2 = 0 then listB l else []
theorem Good.flat_len {l : List Ty} (hg : Good l) : ∀ k, k ≤ l.length → (((l.take k).map tyB).flatten).length ≤ k * 3000
  | 0, _ => by simp
  | k + 1, hk => by
    have ih := hg.flat_len k (by omega)
    have ht : l[k]? = some l[k] := List.getElem?_eq_getElem (by omega)
    have := hg.tyB_len ht
    rw [List.take_add_one, ht]
    simp only [Option.toList_some, List.map_append, List.map_cons, List.map_nil, List.flatten_append, List.flatten_cons, List.flatten_nil, List.append_nil, List.length_append]
    omega
theorem take_tyB {l : List Ty} {k : Nat} {t : Ty} (h : l[k]? = some t) : ((l.take (k + 1)).map tyB).flatten = ((l.take k).map tyB).flatten ++ tyB t := by
  rw [List.take_add_one, h]
  simp

set_option maxHeartbeats 4000000 in
set_option maxRecDepth 100000 in
theorem encode_any (l : List Ty) (a : Option Addr) (c : Nat) (w : World) (h : Tys w (.slice a l.length c) l) (hr : Raw l) :
    Calls Tryd.prog 16 #[.slice a l.length c] w fun e w' => ∃ ov, e = .returned (.tuple #[ov, .int .i64 (checkL l).2]) ∧ OB w.heap.size w' ov (encB l) ∧ Kept (fun _ => False) w w' := by
  obtain ⟨i0, hI0, hI1, hI2, hI3⟩ := info_parts infoU8
  have hCH := Lib.hid (check_any l a c w h hr)
  by_cases h0 : (checkL l).2 = 0
  case neg =>
    have hE : encB l = [] := by unfold encB; rw [if_neg h0]
    generalize (checkL l).2 = ee at *
    generalize (checkL l).1 = ss at *
    have he2 : (ee != 0) = true := by simpa using h0
    have he : (ee == 0) = false := by simpa using h0
    clear h0
    go_enter Tryd.func16, Tryd.ntmps16
    go_wp2_with fail
    refine hCH.out.mono ?_
    rintro e w1 ⟨rfl, hk1⟩
    go_wp2_with fail
    go_ret2
    exact ⟨_, rfl, by rw [hE]; exact OB.nil _ _, hk1⟩
  case pos =>
    have hg := (good_of hr h0).1
    have hE : encB l = listB l := by unfold encB; rw [if_pos h0]
    have HE := Lib.hid hE
    rw [h0] at hCH
    rw [h0]
    clear hE h0
    generalize (checkL l).1 = ss at *
    have h256 := hg.fit.len
    go_enter Tryd.func16, Tryd.ntmps16
    go_wp2_with fail
    refine hCH.out.mono ?_
    rintro e w1 ⟨rfl, hk1⟩
    go_wp2_with fail
    refine (number_any l.length w1).mono ?_
    rintro e w2 ⟨nv, rfl, hN, hk2⟩
    have hK2 := hk1.trans hk2 (fun _ _ h => h)
    have hO2 := hN.low hk1.size
    clear hN hk1 hk2
    go_wp2_with fail
    obtain ⟨W2, rfl⟩ : ∃ W2 : World, W2 = w2 := ⟨_, rfl⟩
    go_loopw [6, 22] (fun ov iv wr => ∃ k : Nat, iv = .int .i64 k ∧ k ≤ l.length ∧ OB w.heap.size wr ov (b4 l.length ++ ((l.take k).map tyB).flatten) ∧ Kept (fun _ => False) w wr) (fun _ iv _ => l.length - (intOf iv).toNat)
    case atStart => exact ⟨0, rfl, by omega, by simpa using hO2, hK2⟩
    case round =>
      clear hO2 hK2
      obtain ⟨k, rfl, hk, hO, hK⟩ := hrel
      by_cases hlt : k < l.length
      case neg =>
        obtain rfl : k = l.length := by omega
        rw [List.take_length] at hO
        go_wp2_with fail
        go_ret2
        exact ⟨_, rfl, by rw [HE.out]; exact hO, hK⟩
      case pos =>
      obtain ⟨t, ht⟩ : ∃ t, l[k]? = some t := ⟨_, List.getElem?_eq_getElem hlt⟩
      have hln : (b4 l.length ++ ((l.take k).map tyB).flatten).length + (tyB t).length ≤ 1000000 := by
        have h1 := hg.flat_len k (by omega)
        have h2 := hg.tyB_len ht
        rw [List.length_append, b4_len]
        omega
      have hnx : (b4 l.length ++ ((l.take k).map tyB).flatten) ++ tyB t = b4 l.length ++ ((l.take (k + 1)).map tyB).flatten := by rw [take_tyB ht, List.append_assoc]
      obtain ⟨hs1, hs2⟩ := alone_short (hg.alone k t ht)
      have h64 := hg.fit.mem t (List.mem_of_getElem? ht)
      generalize b4 l.length ++ ((l.take k).map tyB).flatten = X at *
      have HNX := Lib.hid hnx
      clear hnx
      have hT := h.kept hK
      obtain ⟨g, o, mv, rfl, hgl, hm, c0, c1, c2, c3, c4, c5, c6⟩ := hT.at_ ht
      obtain ⟨ma, mc, rfl⟩ := hm.any
      have hkA : Kept (fun _ => False) wr (wr.alloc (.cells (tyVals t (.slice ma t.mem.length mc)) 38)) := (Kept.refl _ wr).alloc _
      have hKA := hK.trans hkA (fun _ _ h => h)
      have hmA := hm.kept hkA
      have hOA := hO.alloc (.cells (tyVals t (.slice ma t.mem.length mc)) 38)
      have hBt := Blk.new wr 38 (tyVals t (.slice ma t.mem.length mc))
      clear ht
      go_wp2_with fail
      refine (encoded_any t ma mc _ hmA h64 (by omega) (fun m hm => Nat.le_trans (hs2 m hm) (by omega))).mono ?_
      rintro e w5 ⟨tv, rfl, hT5, hk5⟩
      have hO5 := hOA.quiet hk5
      have hK5 := hKA.trans hk5 (fun _ _ h => h)
      go_wp2_with (at_builtin; refine wpList_obApp (w := w5) rfl (.tmp 26) (.tmp 28) 35 rfl Tryd.underlying35 hI0 hI1 hI2 hI3 rfl w.heap.size _ _ X (tyB t) rfl rfl hO5 hT5.by_ (by omega) hK5.size ?_; intro v6 w6 hO6 hk6 hw6; rw [HNX.out] at hO6; have hK6 := hO5.step hK5 hk6)
      exact ⟨⟨k + 1, by go_num, by omega, hO6, hK6⟩, by simp [intOf]; omega⟩

end Go.Proofs.YtmgdjiplpfeoiaaDoor
