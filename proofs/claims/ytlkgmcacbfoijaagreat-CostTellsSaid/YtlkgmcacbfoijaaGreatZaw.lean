import Derived.Test.YtlkgmcacbfoijaaGreatZaa
import Derived.Test.YtlkgmcacbfoijaaGreatSlx
import Derived.Laws.Strings
import Derived.Laws.IdiomStrings
import Derived.Deep.LoopGhost
set_option linter.unusedSimpArgs false
set_option linter.unusedVariables false
namespace Go.Proofs.YtlkgmcacbfoijaaGreat
open Go.RowKit

/-! ### strings -/
abbrev stV (l : List UInt8) : Value := .string ⟨l.toArray⟩
theorem st_index {l : List UInt8} {i : Nat} {b : UInt8} (h : l[i]? = some b) (w : World) : (Instr.index 9 (.string ⟨l.toArray⟩) (.int .i64 i)).run Tryz.prog w = .ok (.int .u8 b.toNat) w := by
  have hi := (List.getElem?_eq_some_iff.1 h).1
  have hb := (List.getElem?_eq_some_iff.1 h).2
  rw [run_index_string w 9 ⟨l.toArray⟩ .i64 i Tryz.underlying9]
  have hs : (ByteArray.mk l.toArray).size = l.length := by simp [ByteArray.size]
  rw [dif_pos ⟨by omega, by rw [hs]; omega⟩]
  have e : ((⟨l.toArray⟩ : ByteArray)[((i : Int)).toNat]'(by rw [hs]; simpa using hi)) = b := by
    rw [← hb]
    simp [ByteArray.getElem_eq_getElem_data]
  rw [e]
theorem ba_extract (l : List UInt8) (m n : Nat) : (ByteArray.mk l.toArray).extract m n = ⟨((l.take n).drop m).toArray⟩ := by
  apply ByteArray.ext
  rw [ByteArray.data_extract]
  simp only [List.extract_toArray]
  congr 1
  rw [List.extract_eq_take_drop, List.drop_take]
theorem ba_size (l : List UInt8) : (ByteArray.mk l.toArray).size = l.length := by simp [ByteArray.size]
theorem st_pre {l : List UInt8} {n : Nat} (h : n ≤ l.length) (w : World) : (Instr.sliceAt 9 (.string ⟨l.toArray⟩) none (some (.int .i64 n)) none).run Tryz.prog w = .ok (stV (l.take n)) w := by
  simp [Instr.sliceAt, Instr.slice, run_underlying Tryz.underlying9, Instr.sliceBounds, run_sliceBound, ba_size, h, ba_extract, asIntOf, Instr.sliceBound]
theorem st_post {l : List UInt8} {n : Nat} (h : n ≤ l.length) (w : World) : (Instr.sliceAt 9 (.string ⟨l.toArray⟩) (some (.int .i64 n)) none none).run Tryz.prog w = .ok (stV (l.drop n)) w := by
  simp [Instr.sliceAt, Instr.slice, run_underlying Tryz.underlying9, Instr.sliceBounds, run_sliceBound, ba_size, h, ba_extract, asIntOf, Instr.sliceBound]
theorem st_cut {l : List UInt8} {m n : Nat} (h : m ≤ n) (h2 : n ≤ l.length) (w : World) : (Instr.sliceAt 9 (.string ⟨l.toArray⟩) (some (.int .i64 m)) (some (.int .i64 n)) none).run Tryz.prog w = .ok (stV ((l.take n).drop m)) w := by
  simp [Instr.sliceAt, Instr.slice, run_underlying Tryz.underlying9, Instr.sliceBounds, run_sliceBound, ba_size, h, h2, ba_extract, asIntOf, Instr.sliceBound]

end Go.Proofs.YtlkgmcacbfoijaaGreat

set_option linter.unusedSimpArgs false
set_option linter.unusedVariables false
namespace Go.Proofs.YtlkgmcacbfoijaaGreat
open Go.RowKit

/-! ### a line without what counts for nothing -/
def semB (b : UInt8) : Bool := ((b.toNat : Int) == 59)
def blB (b : UInt8) : Bool := ((b.toNat : Int) == 32) || ((b.toNat : Int) == 9)
def cutS : List UInt8 → List UInt8
  | [] => []
  | b :: r => if semB b = true then [] else b :: cutS r
def leadS : List UInt8 → List UInt8
  | [] => []
  | b :: r => if blB b = true then leadS r else b :: r
def tailS (l : List UInt8) : List UInt8 := (leadS l.reverse).reverse
def trimS (l : List UInt8) : List UInt8 := tailS (leadS (cutS l))
theorem cutS_none {l : List UInt8} (h : ∀ b ∈ l, semB b = false) : cutS l = l := by
  induction l with
  | nil => rfl
  | cons b r ih =>
    unfold cutS
    rw [if_neg (by rw [h b (by simp)]; decide), ih fun c hc => h c (by simp [hc])]
theorem cutS_at {l : List UInt8} {i : Nat} {b : UInt8} (h : ∀ c ∈ l.take i, semB c = false) (hb : l[i]? = some b) (hs : semB b = true) : cutS l = l.take i := by
  induction l generalizing i with
  | nil => simp at hb
  | cons c r ih =>
    cases i with
    | zero =>
      simp at hb
      subst hb
      show (if semB c = true then [] else c :: cutS r) = []
      rw [if_pos hs]
    | succ i =>
      show (if semB c = true then [] else c :: cutS r) = _
      rw [if_neg (by rw [h c (by simp)]; decide), List.take_succ_cons, ih (i := i) (fun d hd => h d (by simp [hd])) (by simpa using hb)]
theorem leadS_len (l : List UInt8) : (leadS l).length ≤ l.length := by
  induction l with
  | nil => exact Nat.le_refl _
  | cons b r ih =>
    show (if blB b = true then leadS r else b :: r).length ≤ _
    split
    · simp; omega
    · simp
theorem tailS_nil : tailS [] = [] := rfl
theorem tailS_snoc (l : List UInt8) (b : UInt8) : tailS (l ++ [b]) = if blB b = true then tailS l else l ++ [b] := by
  unfold tailS
  rw [List.reverse_append]
  show (if blB b = true then leadS l.reverse else b :: l.reverse).reverse = _
  split <;> simp
set_option maxHeartbeats 8000000 in
set_option maxRecDepth 100000 in
theorem trimmed_any (l : List UInt8) (w : World) (hl : l.length ≤ 1000000) : Calls Tryz.prog 62 #[stV l] w fun e w' => e = .returned (stV (trimS l)) ∧ w = w' := by
  have hsz := ba_size l
  go_enter Tryz.func62, Tryz.ntmps62
  go_wp2_with fail
  go_loopw [0, 3] (fun sv iv wr => ∃ i : Nat, sv = stV l ∧ iv = .int .i64 i ∧ i ≤ l.length ∧ (∀ b ∈ l.take i, semB b = false) ∧ w = wr) (fun _ iv _ => l.length - (intOf iv).toNat)
  case atStart => exact ⟨0, rfl, rfl, by omega, by simp, rfl⟩
  case round =>
    obtain ⟨i, rfl, rfl, hi, hno, rfl⟩ := hrel
    have HNO := Lib.hid hno
    clear hno
    by_cases hlt : i < l.length
    case' pos =>
      have hid : decide ((i : Int) < l.length) = true := decide_eq_true (by omega)
      obtain ⟨b, hb⟩ : ∃ b, l[i]? = some b := ⟨_, List.getElem?_eq_getElem hlt⟩
      have hix := st_index hb
      have HB := Lib.hid hb
      clear hb
      cases hs : ((b.toNat : Int) == 59)
      case false =>
        have HS := Lib.hid hs
        go_wp2_with fail
        go_roundw
        case rel => exact ⟨i + 1, rfl, by go_num, by omega, fun c hc => by
          rw [List.take_add_one, HB.out] at hc
          rcases List.mem_append.1 hc with hc | hc
          · exact HNO.out c hc
          · simp at hc
            rw [hc]
            exact HS.out, by first | trivial | rfl⟩
        case measure => (simp [intOf]; try omega)
      case' true =>
        have hcut := st_pre (l := l) (n := i) (by omega)
        have HM : Hid (cutS l = l.take i) := Lib.hid (cutS_at HNO.out HB.out hs)
        have hml : (l.take i).length ≤ 1000000 := by rw [List.length_take]; omega
        go_wp2_with fail
        clear hcut hix HB HNO hs hid
        generalize l.take i = m at *
        have hm : l = l := rfl
    case' neg =>
      obtain rfl : i = l.length := by omega
      have hid : decide ((l.length : Int) < l.length) = false := decide_eq_false (by omega)
      have HM0 : Hid (cutS l = l) := Lib.hid (cutS_none (by have := HNO.out; rwa [List.take_length] at this))
      go_wp2_with fail
      clear HNO hid
      obtain ⟨m, hm⟩ : ∃ m, m = l := ⟨l, rfl⟩
      have hml : m.length ≤ 1000000 := by rw [hm]; exact hl
      have HM : Hid (cutS l = m) := Lib.hid (by rw [hm]; exact HM0.out)
      clear HM0
    all_goals
      go_loopg [0] m.length (fun k sv wr => ∃ s : List UInt8, sv = stV s ∧ s.length = k ∧ leadS s = leadS m ∧ s.length ≤ 1000000 ∧ w = wr)
      case atStart => exact ⟨m, by first | rfl | rw [hm], rfl, rfl, hml, rfl⟩
      case round =>
        clear hm
        obtain ⟨s, rfl, hk, hld, hsl, rfl⟩ := hrel
        have HK := Lib.hid hk
        have HLD := Lib.hid hld
        clear hk hld
        rcases s with _ | ⟨b, r⟩
        case' nil =>
          have HT : Hid (leadS m = []) := Lib.hid HLD.out.symm
          have hsz2 : (ByteArray.mk #[]).size = 0 := rfl
          go_wp2_with fail
          generalize ([] : List UInt8) = s at HT hsl ⊢
        case' cons =>
          have hix0 : ∀ W, (Instr.index 9 (.string ⟨(b :: r).toArray⟩) (.int .i64 0)).run Tryz.prog W = .ok (.int .u8 b.toNat) W := fun W => st_index (i := 0) rfl W
          have hct : ∀ W, (Instr.sliceAt 9 (.string ⟨(b :: r).toArray⟩) (some (.int .i64 1)) none none).run Tryz.prog W = .ok (stV r) W := fun W => st_post (n := 1) (by simp) W
          have hsz2 := ba_size (b :: r)
          have hrl : (b :: r).length = r.length + 1 := rfl
          have HBL : Hid (leadS (b :: r) = if blB b = true then leadS r else b :: r) := Lib.hid rfl
          have HB : Hid (blB b = (((b.toNat : Int) == 32) || ((b.toNat : Int) == 9))) := Lib.hid rfl
          generalize b :: r = s at *
          have hpos : decide (0 < (s.length : Int)) = true := decide_eq_true (by omega)
          rcases (show ((b.toNat : Int) == 32) = true ∨ ((b.toNat : Int) == 32) = false ∧ ((b.toNat : Int) == 9) = true ∨ ((b.toNat : Int) == 32) = false ∧ ((b.toNat : Int) == 9) = false by
            cases ((b.toNat : Int) == 32) <;> cases ((b.toNat : Int) == 9) <;> simp) with q | ⟨q, q9⟩ | ⟨q, q9⟩
          case inl =>
            have HN : Hid (leadS r = leadS m) := Lib.hid (by rw [← HLD.out, HBL.out, HB.out, q]; rfl)
            go_wp2_with fail
            go_roundg r.length
            case measure => have := HK.out; omega
            case rel => exact ⟨r, rfl, rfl, HN.out, by omega, by first | trivial | rfl⟩
          case inr.inl =>
            have HN : Hid (leadS r = leadS m) := Lib.hid (by rw [← HLD.out, HBL.out, HB.out, q, q9]; rfl)
            go_wp2_with fail
            go_roundg r.length
            case measure => have := HK.out; omega
            case rel => exact ⟨r, rfl, rfl, HN.out, by omega, by first | trivial | rfl⟩
          have HT : Hid (leadS m = s) := Lib.hid (by rw [← HLD.out, HBL.out, HB.out, q, q9]; rfl)
          go_wp2_with fail
        all_goals
          go_loopg [0] s.length (fun k sv wr => ∃ u : List UInt8, sv = stV u ∧ u.length = k ∧ tailS u = tailS s ∧ u.length ≤ 1000000 ∧ w = wr)
          case atStart => exact ⟨s, rfl, rfl, rfl, hsl, rfl⟩
          case round =>
            obtain ⟨u, rfl, hk, hld, hul, rfl⟩ := hrel
            have HTS : Hid (trimS l = tailS u) := Lib.hid (by
              unfold trimS
              rw [HM.out, HT.out, ← hld])
            have HK3 := Lib.hid hk
            have HLD3 := Lib.hid hld
            clear hk hld
            rcases List.eq_nil_or_concat u with rfl | ⟨v, b, rfl⟩
            · have hsz3 : (ByteArray.mk #[]).size = 0 := rfl
              go_wp2_with fail
              go_ret
              exact ⟨by rw [HTS.out]; rfl, rfl⟩
            · rw [List.concat_eq_append] at *
              have hix0 : ∀ W, (Instr.index 9 (.string ⟨(v ++ [b]).toArray⟩) (.int .i64 (v.length : Int))).run Tryz.prog W = .ok (.int .u8 b.toNat) W := fun W => st_index (by simp) W
              have hct : ∀ W, (Instr.sliceAt 9 (.string ⟨(v ++ [b]).toArray⟩) none (some (.int .i64 (v.length : Int))) none).run Tryz.prog W = .ok (stV v) W := fun W => by
                have := st_pre (l := v ++ [b]) (n := v.length) (by simp) W
                rwa [List.take_left] at this
              have hsz3 := ba_size (v ++ [b])
              have hvl : (v ++ [b]).length = v.length + 1 := by simp
              have HBL3 := Lib.hid (tailS_snoc v b)
              have HB3 : Hid (blB b = (((b.toNat : Int) == 32) || ((b.toNat : Int) == 9))) := Lib.hid rfl
              generalize v ++ [b] = u at *
              have hpos3 : decide (0 < (u.length : Int)) = true := decide_eq_true (by omega)
              rcases (show ((b.toNat : Int) == 32) = true ∨ ((b.toNat : Int) == 32) = false ∧ ((b.toNat : Int) == 9) = true ∨ ((b.toNat : Int) == 32) = false ∧ ((b.toNat : Int) == 9) = false by
                cases ((b.toNat : Int) == 32) <;> cases ((b.toNat : Int) == 9) <;> simp) with q | ⟨q, q9⟩ | ⟨q, q9⟩
              · have HN : Hid (tailS v = tailS s) := Lib.hid (by rw [← HLD3.out, HBL3.out, HB3.out, q]; rfl)
                go_wp2_with fail
                go_roundg v.length
                case measure => have := HK3.out; omega
                case rel => exact ⟨v, rfl, rfl, HN.out, by omega, by first | trivial | rfl⟩
              · have HN : Hid (tailS v = tailS s) := Lib.hid (by rw [← HLD3.out, HBL3.out, HB3.out, q, q9]; rfl)
                go_wp2_with fail
                go_roundg v.length
                case measure => have := HK3.out; omega
                case rel => exact ⟨v, rfl, rfl, HN.out, by omega, by first | trivial | rfl⟩
              · have HN : Hid (trimS l = u) := Lib.hid (by rw [HTS.out, HBL3.out, HB3.out, q, q9]; rfl)
                go_wp2_with fail
                go_ret
                exact ⟨by rw [HN.out]; rfl, rfl⟩

end Go.Proofs.YtlkgmcacbfoijaaGreat

set_option linter.unusedSimpArgs false
set_option linter.unusedVariables false
namespace Go.Proofs.YtlkgmcacbfoijaaGreat
open Go.RowKit

/-! ### a line's words -/
def scell (s : List UInt8) : List Value := [stV s]
abbrev Strs (w : World) (v : Value) (L : List (List UInt8)) : Prop := Sl w 9 1 v (L.map scell)
theorem infoStr : (Tryz.prog.info? 9).map (fun i => (i.zero, i.size, i.bytes)) = some (some (.string .empty), 1, 16) := by kernel_rfl
theorem Strs.cell {w : World} {g n cap : Nat} {L : List (List UInt8)} (h : Strs w (.slice (some ⟨g, 0, none⟩) n cap) L) {i : Nat} {x : List UInt8} (hi : L[i]? = some x) : w.cell? ⟨g, i, none⟩ = some (stV x) := by
  have := Sl.cell h (i := i) (c := scell x) (by rw [List.getElem?_map, hi]; rfl) (k := 0) (by omega)
  simpa [scell] using this
def spB (b : UInt8) : Bool := ((b.toNat : Int) == 32)
def wordsG (cur : List UInt8) : List UInt8 → List (List UInt8)
  | [] => [cur]
  | b :: r => if spB b = true then cur :: wordsG [] r else wordsG (cur ++ [b]) r
def wordsS (l : List UInt8) : List (List UInt8) := wordsG [] l
theorem wordsG_pos (cur l : List UInt8) : 1 ≤ (wordsG cur l).length := by
  induction l generalizing cur with
  | nil => simp [wordsG]
  | cons b r ih =>
    unfold wordsG
    split
    · simp
    · exact ih _
theorem wordsG_len (cur l : List UInt8) : (wordsG cur l).length ≤ l.length + 1 := by
  induction l generalizing cur with
  | nil => simp [wordsG]
  | cons b r ih =>
    unfold wordsG
    split
    · have := ih []
      simp
      omega
    · have := ih (cur ++ [b])
      simp
      omega
theorem drop_cons {l : List UInt8} {i : Nat} {b : UInt8} (h : l[i]? = some b) : l.drop i = b :: l.drop (i + 1) := by
  obtain ⟨hi, rfl⟩ := List.getElem?_eq_some_iff.1 h
  exact List.drop_eq_getElem_cons hi
theorem cut_more {l : List UInt8} {f i : Nat} {b : UInt8} (h : l[i]? = some b) (hf : f ≤ i) : (l.take (i + 1)).drop f = (l.take i).drop f ++ [b] := by
  have hi := (List.getElem?_eq_some_iff.1 h).1
  rw [List.take_add_one, h]
  simp only [Option.toList_some]
  rw [List.drop_append_of_le_length (by rw [List.length_take]; omega)]
set_option maxHeartbeats 8000000 in
set_option maxRecDepth 100000 in
theorem words_any (l : List UInt8) (w : World) (hl : l.length ≤ 1000000) : Calls Tryz.prog 83 #[stV l] w fun e w' => ∃ ov, e = .returned ov ∧ Strs w' ov (wordsS l) ∧ Kept (fun _ => False) w w' := by
  have hsz := ba_size l
  obtain ⟨i0, hI0, hI1, hI2, hI3⟩ := info_parts infoStr
  go_enter Tryz.func83, Tryz.ntmps83
  go_wp2_with fail
  go_loopw [3, 4, 5] (fun ov fv iv wr => ∃ (i f : Nat) (W : List (List UInt8)), iv = .int .i64 i ∧ fv = .int .i64 f ∧ i ≤ l.length + 1 ∧ f ≤ i ∧ W.length ≤ i ∧ (i ≤ l.length → W ++ wordsG ((l.take i).drop f) (l.drop i) = wordsS l) ∧ (i = l.length + 1 → W = wordsS l) ∧ Strs wr ov W ∧ (∀ g, ov.ownBlock = some g → w.heap.size ≤ g) ∧ Kept (fun _ => False) w wr) (fun _ _ iv _ => l.length + 1 - (intOf iv).toNat)
  case atStart => exact ⟨0, 0, [], rfl, rfl, by omega, by omega, by simp, fun _ => rfl, fun h => by omega, Sl.nil _ _ _, fun g hg => by simp [Value.ownBlock] at hg, Kept.refl _ _⟩
  case round =>
    obtain ⟨i, f, W, rfl, rfl, hi, hf, hW, h1, h2, hO, hown, hK⟩ := hrel
    have H1 := Lib.hid h1
    have H2 := Lib.hid h2
    clear h1 h2
    by_cases hlt : i < l.length
    case pos =>
      have hid : decide ((i : Int) ≤ l.length) = true := decide_eq_true (by omega)
      have hie : ((i : Int) == (l.length : Int)) = false := by simp; omega
      obtain ⟨b, hb⟩ : ∃ b, l[i]? = some b := ⟨_, List.getElem?_eq_getElem hlt⟩
      have hix := st_index hb
      have HB := Lib.hid hb
      have HD := Lib.hid (drop_cons hb)
      have HC := Lib.hid (cut_more hb hf)
      clear hb
      cases hs : ((b.toNat : Int) == 32)
      case false =>
        have HN : Hid (W ++ wordsG ((l.take (i + 1)).drop f) (l.drop (i + 1)) = wordsS l) := Lib.hid (by
          rw [← H1.out (by omega), HD.out, HC.out]
          show _ = W ++ (if spB b = true then _ else wordsG ((l.take i).drop f ++ [b]) (l.drop (i + 1)))
          rw [if_neg (by show ¬ (((b.toNat : Int) == 32) = true); rw [hs]; decide)])
        go_wp2_with fail
        go_roundw
        case rel => exact ⟨i + 1, f, W, by go_num, rfl, by omega, by omega, by omega, fun _ => HN.out, fun h => by omega, hO, hown, hK⟩
        case measure => (simp [intOf]; try omega)
      case true =>
        have hcut := st_cut (l := l) (m := f) (n := i) hf (by omega)
        have HN : Hid ((W ++ [(l.take i).drop f]) ++ wordsG ((l.take (i + 1)).drop (i + 1)) (l.drop (i + 1)) = wordsS l) := Lib.hid (by
          rw [← H1.out (by omega), HD.out]
          show _ = W ++ (if spB b = true then ((l.take i).drop f) :: wordsG [] (l.drop (i + 1)) else _)
          rw [if_pos (show spB b = true from hs), List.append_assoc, show (l.take (i + 1)).drop (i + 1) = [] from List.drop_eq_nil_of_le (by rw [List.length_take]; omega)]
          rfl)
        go_wp2_with (at_builtin; refine wpList_push (w := wr) rfl (.tmp 22) (.tmp 27) 127 rfl Tryz.underlying127 hI0 hI1 hI2 hI3 rfl (by omega) _ (W.map scell) (scell ((l.take i).drop f)) rfl rfl hO rfl (by simp [scell, Value.oneCell']) (by rw [List.length_map]; omega) (by omega) ?_; intro g5 cap5 w5 hS5 hk5 hg5)
        have hS6 : Strs w5 (.slice (some ⟨g5, 0, none⟩) (W.length + 1) cap5) (W ++ [(l.take i).drop f]) := by
          rw [List.length_map] at hS5
          show Sl _ _ _ _ ((_ ++ [_]).map scell)
          rw [List.map_append]
          exact hS5
        go_roundw
        case rel => exact ⟨i + 1, i + 1, W ++ [(l.take i).drop f], by go_num, by go_num, by omega, by omega, by simp; omega, fun _ => HN.out, fun h => by omega, hS6, fun g hg => by
          have e : g5 = g := Option.some.inj hg
          subst e
          rcases hg5 with h | h
          · exact hown _ h
          · have := hK.size
            omega, hK.trans hk5 (fun k hk e => by have := hown k e; omega)⟩
        case measure => (simp [intOf]; try omega)
    case neg =>
      by_cases hend : i = l.length
      case pos =>
        subst hend
        have hid : decide ((l.length : Int) ≤ l.length) = true := decide_eq_true (by omega)
        have hie : ((l.length : Int) == (l.length : Int)) = true := by simp
        have hcut := st_cut (l := l) (m := f) (n := l.length) hf (by omega)
        rw [List.take_length] at hcut
        have HN : Hid (W ++ [l.drop f] = wordsS l) := Lib.hid (by
          rw [← H1.out (by omega), List.drop_length, List.take_length]
          rfl)
        go_wp2_with (at_builtin; refine wpList_push (w := wr) rfl (.tmp 22) (.tmp 27) 127 rfl Tryz.underlying127 hI0 hI1 hI2 hI3 rfl (by omega) _ (W.map scell) (scell (l.drop f)) rfl rfl hO rfl (by simp [scell, Value.oneCell']) (by rw [List.length_map]; omega) (by omega) ?_; intro g5 cap5 w5 hS5 hk5 hg5)
        have hS6 : Strs w5 (.slice (some ⟨g5, 0, none⟩) (W.length + 1) cap5) (W ++ [l.drop f]) := by
          rw [List.length_map] at hS5
          show Sl _ _ _ _ ((_ ++ [_]).map scell)
          rw [List.map_append]
          exact hS5
        go_roundw
        case rel => exact ⟨l.length + 1, l.length + 1, W ++ [l.drop f], by go_num, by go_num, by omega, by omega, by simp; omega, fun h => by omega, fun h => HN.out, hS6, fun g hg => by
          have e : g5 = g := Option.some.inj hg
          subst e
          rcases hg5 with h | h
          · exact hown _ h
          · have := hK.size
            omega, hK.trans hk5 (fun k hk e => by have := hown k e; omega)⟩
        case measure => (simp [intOf]; try omega)
      case neg =>
        obtain rfl : i = l.length + 1 := by omega
        have hid : decide ((((l.length + 1 : Nat)) : Int) ≤ l.length) = false := decide_eq_false (by omega)
        have hR := H2.out rfl
        subst hR
        go_wp2_with fail
        go_ret
        exact ⟨_, rfl, hO, hK⟩

end Go.Proofs.YtlkgmcacbfoijaaGreat

set_option linter.unusedSimpArgs false
set_option linter.unusedVariables false
namespace Go.Proofs.YtlkgmcacbfoijaaGreat
open Go.RowKit

/-! ### numbers -/
def plainG (n : Nat) : List UInt8 → Option Nat
  | [] => some n
  | b :: r => if b.toNat < 48 ∨ 57 < b.toNat ∨ (18446744073709551615 - (b.toNat - 48)) / 10 < n then none else plainG (10 * n + (b.toNat - 48)) r
def plainS (s : List UInt8) : Option Nat := if s.length = 0 ∨ 20 < s.length ∨ (s[0]? = some 48 ∧ 1 < s.length) then none else plainG 0 s
theorem plainG_lt {n v : Nat} {s : List UInt8} (h : plainG n s = some v) (hn : n < 18446744073709551616) : v < 18446744073709551616 := by
  induction s generalizing n with
  | nil => simp [plainG] at h; omega
  | cons b r ih =>
    unfold plainG at h
    split at h
    · cases h
    · refine ih h ?_
      omega
theorem plainS_lt {v : Nat} {s : List UInt8} (h : plainS s = some v) : v < 18446744073709551616 := by
  unfold plainS at h
  split at h
  · cases h
  · exact plainG_lt h (by omega)
def optV (o : Option Nat) : Value := .tuple #[.int .u64 (o.getD 0 : Nat), .bool o.isSome]
set_option maxHeartbeats 8000000 in
set_option maxRecDepth 100000 in
theorem plain_any (s : List UInt8) (w : World) (hl : s.length ≤ 1000000) : Calls Tryz.prog 112 #[stV s] w fun e w' => e = .returned (optV (plainS s)) ∧ w = w' := by
  have hsz := ba_size s
  by_cases h0 : s.length = 0
  · have hs0 : s = [] := List.length_eq_zero_iff.1 h0
    subst hs0
    have hs1 : (ByteArray.mk #[]).size = 0 := rfl
    clear hsz h0
    go_enter Tryz.func112, Tryz.ntmps112
    go_wp2_with fail
    go_ret2
    exact ⟨rfl, rfl⟩
  have h0d : ((s.length : Int) == 0) = false := beq_eq_false_iff_ne.2 (by omega)
  by_cases h20 : 20 < s.length
  · have hR : plainS s = none := by unfold plainS; rw [if_pos (.inr (.inl h20))]
    rw [hR]
    have h20d : decide ((20 : Int) < s.length) = true := decide_eq_true (by omega)
    go_enter Tryz.func112, Tryz.ntmps112
    go_wp2_with fail
    go_ret2
    exact ⟨rfl, rfl⟩
  have h20d : decide ((20 : Int) < s.length) = false := decide_eq_false (by omega)
  obtain ⟨c, hc⟩ : ∃ c, s[0]? = some c := ⟨_, List.getElem?_eq_getElem (by omega)⟩
  have hix0 : ∀ W, (Instr.index 9 (.string ⟨s.toArray⟩) (.int .i64 0)).run Tryz.prog W = .ok (.int .u8 c.toNat) W := fun W => st_index (i := 0) hc W
  by_cases hz : (s[0]? = some 48 ∧ 1 < s.length)
  · have hR : plainS s = none := by unfold plainS; rw [if_pos (.inr (.inr hz))]
    rw [hR]
    have hc8 : ((c.toNat : Int) == 48) = true := by
      have := hz.1
      rw [hc] at this
      cases this
      rfl
    have h1d : decide ((1 : Int) < s.length) = true := decide_eq_true (by omega)
    clear hz hc
    go_enter Tryz.func112, Tryz.ntmps112
    go_wp2_with fail
    go_ret2
    exact ⟨rfl, rfl⟩
  have hR : plainS s = plainG 0 s := by unfold plainS; rw [if_neg (fun h => h.elim h0 fun h => h.elim h20 hz)]
  rw [hR]
  have hnz : ((c.toNat : Int) == 48) = false ∨ ((c.toNat : Int) == 48) = true ∧ decide ((1 : Int) < s.length) = false := by
    cases h : ((c.toNat : Int) == 48)
    · exact .inl rfl
    · refine .inr ⟨rfl, decide_eq_false fun h1 => hz ⟨?_, by omega⟩⟩
      have : c.toNat = 48 := by simp at h; omega
      rw [hc, show c = 48 from UInt8.toNat_inj.1 this]
  have HS := Lib.hid hl
  clear hz hc hR
  rcases hnz with hq | ⟨hq, hq2⟩
  all_goals
    go_enter Tryz.func112, Tryz.ntmps112
    go_wp2_with fail
    go_loopw [4, 5] (fun nv iv wr => ∃ (i n : Nat), iv = .int .i64 i ∧ nv = .int .u64 n ∧ i ≤ s.length ∧ plainG n (s.drop i) = plainG 0 s ∧ n < 18446744073709551616 ∧ w = wr) (fun _ iv _ => s.length - (intOf iv).toNat)
    case atStart => exact ⟨0, 0, rfl, rfl, by omega, rfl, by omega, rfl⟩
    case round =>
      obtain ⟨i, n, rfl, rfl, hi, hG, hn, rfl⟩ := hrel
      have HG := Lib.hid hG
      clear hG
      by_cases hlt : i < s.length
      case neg =>
        obtain rfl : i = s.length := by omega
        have hid : decide ((s.length : Int) < s.length) = false := decide_eq_false (by omega)
        have HR : Hid (plainG 0 s = some n) := Lib.hid (by rw [← HG.out, List.drop_length]; rfl)
        go_wp2_with fail
        go_ret2
        exact ⟨by rw [HR.out]; rfl, rfl⟩
      case pos =>
        have hid : decide ((i : Int) < s.length) = true := decide_eq_true (by omega)
        obtain ⟨b, hb⟩ : ∃ b, s[i]? = some b := ⟨_, List.getElem?_eq_getElem hlt⟩
        have hix := st_index hb
        have HD := Lib.hid (drop_cons hb)
        have hbl : b.toNat < 256 := b.toNat_lt
        clear hb
        by_cases h48 : b.toNat < 48
        · have hq48 : decide ((b.toNat : Int) < 48) = true := decide_eq_true (by omega)
          have HR : Hid (plainG 0 s = none) := Lib.hid (by
            rw [← HG.out, HD.out]
            show (if _ then _ else _) = _
            rw [if_pos (.inl h48)])
          go_wp2_with fail
          go_ret2
          exact ⟨by rw [HR.out]; rfl, rfl⟩
        · have hq48 : decide ((b.toNat : Int) < 48) = false := decide_eq_false (by omega)
          by_cases h57 : 57 < b.toNat
          · have hq57 : decide ((57 : Int) < b.toNat) = true := decide_eq_true (by omega)
            have HR : Hid (plainG 0 s = none) := Lib.hid (by
              rw [← HG.out, HD.out]
              show (if _ then _ else _) = _
              rw [if_pos (.inr (.inl h57))])
            go_wp2_with fail
            go_ret2
            exact ⟨by rw [HR.out]; rfl, rfl⟩
          · have hq57 : decide ((57 : Int) < b.toNat) = false := decide_eq_false (by omega)
            obtain ⟨d, hd⟩ : ∃ d : Nat, b.toNat = 48 + d := ⟨b.toNat - 48, by omega⟩
            have hd9 : d ≤ 9 := by omega
            have HN : Hid (plainG 0 s = if (18446744073709551615 - d) / 10 < n then none else plainG (10 * n + d) (s.drop (i + 1))) := Lib.hid (by
              rw [← HG.out, HD.out]
              show (if _ then _ else _) = _
              rw [show b.toNat - 48 = d from by omega]
              by_cases hov : (18446744073709551615 - d) / 10 < n
              · rw [if_pos hov, if_pos (.inr (.inr hov))]
              · rw [if_neg hov, if_neg (by omega)])
            rw [hd] at hix hq48 hq57
            by_cases hov : (18446744073709551615 - d) / 10 < n
            · have HR : Hid (plainG 0 s = none) := Lib.hid (by rw [HN.out, if_pos hov])
              have hod : decide ((18446744073709551615 - (d : Int)) / 10 < (n : Int)) = true := decide_eq_true (by omega)
              go_wp2_with fail
              go_ret2
              exact ⟨by rw [HR.out]; rfl, rfl⟩
            · have HR : Hid (plainG (10 * n + d) (s.drop (i + 1)) = plainG 0 s) := Lib.hid (by rw [HN.out, if_neg hov])
              have hod : decide ((18446744073709551615 - (d : Int)) / 10 < (n : Int)) = false := decide_eq_false (by omega)
              have hn2 : 10 * n + d < 18446744073709551616 := by omega
              go_wp2_with fail
              go_roundw
              case rel => exact ⟨i + 1, 10 * n + d, by go_num, by go_num, by omega, HR.out, hn2, by first | trivial | rfl⟩
              case measure => (simp [intOf]; try omega)

end Go.Proofs.YtlkgmcacbfoijaaGreat

