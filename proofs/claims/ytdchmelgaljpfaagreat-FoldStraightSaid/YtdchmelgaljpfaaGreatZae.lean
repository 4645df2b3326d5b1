import Derived.Test.YtdchmelgaljpfaaGreatMem
import Derived.Test.YtdchmelgaljpfaaGreatSl
import Derived.Laws.Strings
import Derived.Laws.IdiomStrings
import Derived.Deep.LoopGhost
import Derived.Laws.Concat
set_option linter.unusedSimpArgs false
set_option linter.unusedVariables false
namespace Go.Proofs.YtdchmelgaljpfaaGreat
open Go.RowKit

/-! ### strings -/
abbrev stV (l : List UInt8) : Value := .string ⟨l.toArray⟩
theorem st_index {l : List UInt8} {i : Nat} {b : UInt8} (h : l[i]? = some b) (w : World) : (Instr.index 9 (.string ⟨l.toArray⟩) (.int .i64 i)).run Tryz.prog w = .ok (.int .u8 b.toNat) w := by
  have hi := (List.getElem?_eq_some_iff.1 h).1
  have hb := (List.getElem?_eq_some_iff.1 h).2
  rw [run_index_string w 9 ⟨l.toArray⟩ .i64 i Tryz.underlying9]
  have hs : (ByteArray.mk l.toArray).size = l.length := by simp [ByteArray.size]
  rw [dif_pos ⟨by omega, by rw [hs]; omega⟩]
  have e : ((⟨l.toArray⟩ : ByteArray)[((i : Int)).toNat]'(by rw [hs]; simpa using hi)) = b := by
    rw [← hb]
    simp [ByteArray.getElem_eq_getElem_data]
  rw [e]
theorem ba_extract (l : List UInt8) (m n : Nat) : (ByteArray.mk l.toArray).extract m n = ⟨((l.take n).drop m).toArray⟩ := by
  apply ByteArray.ext
  rw [ByteArray.data_extract]
  simp only [List.extract_toArray]
  congr 1
  rw [List.extract_eq_take_drop, List.drop_take]
theorem ba_size (l : List UInt8) : (ByteArray.mk l.toArray).size = l.length := by simp [ByteArray.size]
theorem st_pre {l : List UInt8} {n : Nat} (h : n ≤ l.length) (w : World) : (Instr.sliceAt 9 (.string ⟨l.toArray⟩) none (some (.int .i64 n)) none).run Tryz.prog w = .ok (stV (l.take n)) w := by
  simp [Instr.sliceAt, Instr.slice, run_underlying Tryz.underlying9, Instr.sliceBounds, run_sliceBound, ba_size, h, ba_extract, asIntOf, Instr.sliceBound]
theorem st_post {l : List UInt8} {n : Nat} (h : n ≤ l.length) (w : World) : (Instr.sliceAt 9 (.string ⟨l.toArray⟩) (some (.int .i64 n)) none none).run Tryz.prog w = .ok (stV (l.drop n)) w := by
  simp [Instr.sliceAt, Instr.slice, run_underlying Tryz.underlying9, Instr.sliceBounds, run_sliceBound, ba_size, h, ba_extract, asIntOf, Instr.sliceBound]
theorem st_cut {l : List UInt8} {m n : Nat} (h : m ≤ n) (h2 : n ≤ l.length) (w : World) : (Instr.sliceAt 9 (.string ⟨l.toArray⟩) (some (.int .i64 m)) (some (.int .i64 n)) none).run Tryz.prog w = .ok (stV ((l.take n).drop m)) w := by
  simp [Instr.sliceAt, Instr.slice, run_underlying Tryz.underlying9, Instr.sliceBounds, run_sliceBound, ba_size, h, h2, ba_extract, asIntOf, Instr.sliceBound]

end Go.Proofs.YtdchmelgaljpfaaGreat

set_option linter.unusedSimpArgs false
set_option linter.unusedVariables false
namespace Go.Proofs.YtdchmelgaljpfaaGreat
open Go.RowKit

/-! ### a line without what counts for nothing -/
def semB (b : UInt8) : Bool := ((b.toNat : Int) == 59)
def blB (b : UInt8) : Bool := ((b.toNat : Int) == 32) || ((b.toNat : Int) == 9)
def cutS : List UInt8 → List UInt8
  | [] => []
  | b :: r => if semB b = true then [] else b :: cutS r
def leadS : List UInt8 → List UInt8
  | [] => []
  | b :: r => if blB b = true then leadS r else b :: r
def tailS (l : List UInt8) : List UInt8 := (leadS l.reverse).reverse
def trimS (l : List UInt8) : List UInt8 := tailS (leadS (cutS l))
theorem cutS_none {l : List UInt8} (h : ∀ b ∈ l, semB b = false) : cutS l = l := by
  induction l with
  | nil => rfl
  | cons b r ih =>
    unfold cutS
    rw [if_neg (by rw [h b (by simp)]; decide), ih fun c hc => h c (by simp [hc])]
theorem cutS_at {l : List UInt8} {i : Nat} {b : UInt8} (h : ∀ c ∈ l.take i, semB c = false) (hb : l[i]? = some b) (hs : semB b = true) : cutS l = l.take i := by
  induction l generalizing i with
  | nil => simp at hb
  | cons c r ih =>
    cases i with
    | zero =>
      simp at hb
      subst hb
      show (if semB c = true then [] else c :: cutS r) = []
      rw [if_pos hs]
    | succ i =>
      show (if semB c = true then [] else c :: cutS r) = _
      rw [if_neg (by rw [h c (by simp)]; decide), List.take_succ_cons, ih (i := i) (fun d hd => h d (by simp [hd])) (by simpa using hb)]
theorem leadS_len (l : List UInt8) : (leadS l).length ≤ l.length := by
  induction l with
  | nil => exact Nat.le_refl _
  | cons b r ih =>
    show (if blB b = true then leadS r else b :: r).length ≤ _
    split
    · simp; omega
    · simp
theorem tailS_snoc (l : List UInt8) (b : UInt8) : tailS (l ++ [b]) = if blB b = true then tailS l else l ++ [b] := by
  unfold tailS
  rw [List.reverse_append]
  show (if blB b = true then leadS l.reverse else b :: l.reverse).reverse = _
  split <;> simp
set_option maxHeartbeats 8000000 in
set_option maxRecDepth 100000 in
theorem trimmed_any (l : List UInt8) (w : World) (hl : l.length ≤ 1000000) : Calls Tryz.prog 142 #[stV l] w fun e w' => e = .returned (stV (trimS l)) ∧ w = w' := by
  have hsz := ba_size l
  go_enter Tryz.func142, Tryz.ntmps142
  go_wp2_with fail
  go_loopw [0, 3] (fun sv iv wr => ∃ i : Nat, sv = stV l ∧ iv = .int .i64 i ∧ i ≤ l.length ∧ (∀ b ∈ l.take i, semB b = false) ∧ w = wr) (fun _ iv _ => l.length - (intOf iv).toNat)
  case atStart => exact ⟨0, rfl, rfl, by omega, by simp, rfl⟩
  case round =>
    obtain ⟨i, rfl, rfl, hi, hno, rfl⟩ := hrel
    have HNO := Lib.hid hno
    clear hno
    by_cases hlt : i < l.length
    case' pos =>
      have hid : decide ((i : Int) < l.length) = true := decide_eq_true (by omega)
      obtain ⟨b, hb⟩ : ∃ b, l[i]? = some b := ⟨_, List.getElem?_eq_getElem hlt⟩
      have hix := st_index hb
      have HB := Lib.hid hb
      clear hb
      cases hs : ((b.toNat : Int) == 59)
      case false =>
        have HS := Lib.hid hs
        go_wp2_with fail
        go_roundw
        case rel => exact ⟨i + 1, rfl, by go_num, by omega, fun c hc => by
          rw [List.take_add_one, HB.out] at hc
          rcases List.mem_append.1 hc with hc | hc
          · exact HNO.out c hc
          · simp at hc
            rw [hc]
            exact HS.out, by first | trivial | rfl⟩
        case measure => (simp [intOf]; try omega)
      case' true =>
        have hcut := st_pre (l := l) (n := i) (by omega)
        have HM : Hid (cutS l = l.take i) := Lib.hid (cutS_at HNO.out HB.out hs)
        have hml : (l.take i).length ≤ 1000000 := by rw [List.length_take]; omega
        go_wp2_with fail
        clear hcut hix HB HNO hs hid
        generalize l.take i = m at *
        have hm : l = l := rfl
    case' neg =>
      obtain rfl : i = l.length := by omega
      have hid : decide ((l.length : Int) < l.length) = false := decide_eq_false (by omega)
      have HM0 : Hid (cutS l = l) := Lib.hid (cutS_none (by have := HNO.out; rwa [List.take_length] at this))
      go_wp2_with fail
      clear HNO hid
      obtain ⟨m, hm⟩ : ∃ m, m = l := ⟨l, rfl⟩
      have hml : m.length ≤ 1000000 := by rw [hm]; exact hl
      have HM : Hid (cutS l = m) := Lib.hid (by rw [hm]; exact HM0.out)
      clear HM0
    all_goals
      go_loopg [0] m.length (fun k sv wr => ∃ s : List UInt8, sv = stV s ∧ s.length = k ∧ leadS s = leadS m ∧ s.length ≤ 1000000 ∧ w = wr)
      case atStart => exact ⟨m, by first | rfl | rw [hm], rfl, rfl, hml, rfl⟩
      case round =>
        clear hm
        obtain ⟨s, rfl, hk, hld, hsl, rfl⟩ := hrel
        have HK := Lib.hid hk
        have HLD := Lib.hid hld
        clear hk hld
        rcases s with _ | ⟨b, r⟩
        case' nil =>
          have HT : Hid (leadS m = []) := Lib.hid HLD.out.symm
          have hsz2 : (ByteArray.mk #[]).size = 0 := rfl
          go_wp2_with fail
          generalize ([] : List UInt8) = s at HT hsl ⊢
        case' cons =>
          have hix0 : ∀ W, (Instr.index 9 (.string ⟨(b :: r).toArray⟩) (.int .i64 0)).run Tryz.prog W = .ok (.int .u8 b.toNat) W := fun W => st_index (i := 0) rfl W
          have hct : ∀ W, (Instr.sliceAt 9 (.string ⟨(b :: r).toArray⟩) (some (.int .i64 1)) none none).run Tryz.prog W = .ok (stV r) W := fun W => st_post (n := 1) (by simp) W
          have hsz2 := ba_size (b :: r)
          have hrl : (b :: r).length = r.length + 1 := rfl
          have HBL : Hid (leadS (b :: r) = if blB b = true then leadS r else b :: r) := Lib.hid rfl
          have HB : Hid (blB b = (((b.toNat : Int) == 32) || ((b.toNat : Int) == 9))) := Lib.hid rfl
          generalize b :: r = s at *
          have hpos : decide (0 < (s.length : Int)) = true := decide_eq_true (by omega)
          rcases (show ((b.toNat : Int) == 32) = true ∨ ((b.toNat : Int) == 32) = false ∧ ((b.toNat : Int) == 9) = true ∨ ((b.toNat : Int) == 32) = false ∧ ((b.toNat : Int) == 9) = false by
            cases ((b.toNat : Int) == 32) <;> cases ((b.toNat : Int) == 9) <;> simp) with q | ⟨q, q9⟩ | ⟨q, q9⟩
          case inl =>
            have HN : Hid (leadS r = leadS m) := Lib.hid (by rw [← HLD.out, HBL.out, HB.out, q]; rfl)
            go_wp2_with fail
            go_roundg r.length
            case measure => have := HK.out; omega
            case rel => exact ⟨r, rfl, rfl, HN.out, by omega, by first | trivial | rfl⟩
          case inr.inl =>
            have HN : Hid (leadS r = leadS m) := Lib.hid (by rw [← HLD.out, HBL.out, HB.out, q, q9]; rfl)
            go_wp2_with fail
            go_roundg r.length
            case measure => have := HK.out; omega
            case rel => exact ⟨r, rfl, rfl, HN.out, by omega, by first | trivial | rfl⟩
          have HT : Hid (leadS m = s) := Lib.hid (by rw [← HLD.out, HBL.out, HB.out, q, q9]; rfl)
          go_wp2_with fail
        all_goals
          go_loopg [0] s.length (fun k sv wr => ∃ u : List UInt8, sv = stV u ∧ u.length = k ∧ tailS u = tailS s ∧ u.length ≤ 1000000 ∧ w = wr)
          case atStart => exact ⟨s, rfl, rfl, rfl, hsl, rfl⟩
          case round =>
            obtain ⟨u, rfl, hk, hld, hul, rfl⟩ := hrel
            have HTS : Hid (trimS l = tailS u) := Lib.hid (by
              unfold trimS
              rw [HM.out, HT.out, ← hld])
            have HK3 := Lib.hid hk
            have HLD3 := Lib.hid hld
            clear hk hld
            rcases List.eq_nil_or_concat u with rfl | ⟨v, b, rfl⟩
            · have hsz3 : (ByteArray.mk #[]).size = 0 := rfl
              go_wp2_with fail
              go_ret
              exact ⟨by rw [HTS.out]; rfl, rfl⟩
            · rw [List.concat_eq_append] at *
              have hix0 : ∀ W, (Instr.index 9 (.string ⟨(v ++ [b]).toArray⟩) (.int .i64 (v.length : Int))).run Tryz.prog W = .ok (.int .u8 b.toNat) W := fun W => st_index (by simp) W
              have hct : ∀ W, (Instr.sliceAt 9 (.string ⟨(v ++ [b]).toArray⟩) none (some (.int .i64 (v.length : Int))) none).run Tryz.prog W = .ok (stV v) W := fun W => by
                have := st_pre (l := v ++ [b]) (n := v.length) (by simp) W
                rwa [List.take_left] at this
              have hsz3 := ba_size (v ++ [b])
              have hvl : (v ++ [b]).length = v.length + 1 := by simp
              have HBL3 := Lib.hid (tailS_snoc v b)
              have HB3 : Hid (blB b = (((b.toNat : Int) == 32) || ((b.toNat : Int) == 9))) := Lib.hid rfl
              generalize v ++ [b] = u at *
              have hpos3 : decide (0 < (u.length : Int)) = true := decide_eq_true (by omega)
              rcases (show ((b.toNat : Int) == 32) = true ∨ ((b.toNat : Int) == 32) = false ∧ ((b.toNat : Int) == 9) = true ∨ ((b.toNat : Int) == 32) = false ∧ ((b.toNat : Int) == 9) = false by
                cases ((b.toNat : Int) == 32) <;> cases ((b.toNat : Int) == 9) <;> simp) with q | ⟨q, q9⟩ | ⟨q, q9⟩
              · have HN : Hid (tailS v = tailS s) := Lib.hid (by rw [← HLD3.out, HBL3.out, HB3.out, q]; rfl)
                go_wp2_with fail
                go_roundg v.length
                case measure => have := HK3.out; omega
                case rel => exact ⟨v, rfl, rfl, HN.out, by omega, by first | trivial | rfl⟩
              · have HN : Hid (tailS v = tailS s) := Lib.hid (by rw [← HLD3.out, HBL3.out, HB3.out, q, q9]; rfl)
                go_wp2_with fail
                go_roundg v.length
                case measure => have := HK3.out; omega
                case rel => exact ⟨v, rfl, rfl, HN.out, by omega, by first | trivial | rfl⟩
              · have HN : Hid (trimS l = u) := Lib.hid (by rw [HTS.out, HBL3.out, HB3.out, q, q9]; rfl)
                go_wp2_with fail
                go_ret
                exact ⟨by rw [HN.out]; rfl, rfl⟩

end Go.Proofs.YtdchmelgaljpfaaGreat

set_option linter.unusedSimpArgs false
set_option linter.unusedVariables false
namespace Go.Proofs.YtdchmelgaljpfaaGreat
open Go.RowKit

/-! ### a line's words -/
def scell (s : List UInt8) : List Value := [stV s]
abbrev Strs (w : World) (v : Value) (L : List (List UInt8)) : Prop := Sl w 9 1 v (L.map scell)
theorem infoStr : (Tryz.prog.info? 9).map (fun i => (i.zero, i.size, i.bytes)) = some (some (.string .empty), 1, 16) := by kernel_rfl
theorem Strs.cell {w : World} {g n cap : Nat} {L : List (List UInt8)} (h : Strs w (.slice (some ⟨g, 0, none⟩) n cap) L) {i : Nat} {x : List UInt8} (hi : L[i]? = some x) : w.cell? ⟨g, i, none⟩ = some (stV x) := by
  have := Sl.cell h (i := i) (c := scell x) (by rw [List.getElem?_map, hi]; rfl) (k := 0) (by omega)
  simpa [scell] using this
def spB (b : UInt8) : Bool := ((b.toNat : Int) == 32)
def wordsG (cur : List UInt8) : List UInt8 → List (List UInt8)
  | [] => [cur]
  | b :: r => if spB b = true then cur :: wordsG [] r else wordsG (cur ++ [b]) r
def wordsS (l : List UInt8) : List (List UInt8) := wordsG [] l
theorem wordsG_pos (cur l : List UInt8) : 1 ≤ (wordsG cur l).length := by
  induction l generalizing cur with
  | nil => simp [wordsG]
  | cons b r ih =>
    unfold wordsG
    split
    · simp
    · exact ih _
theorem drop_cons {l : List UInt8} {i : Nat} {b : UInt8} (h : l[i]? = some b) : l.drop i = b :: l.drop (i + 1) := by
  obtain ⟨hi, rfl⟩ := List.getElem?_eq_some_iff.1 h
  exact List.drop_eq_getElem_cons hi
theorem cut_more {l : List UInt8} {f i : Nat} {b : UInt8} (h : l[i]? = some b) (hf : f ≤ i) : (l.take (i + 1)).drop f = (l.take i).drop f ++ [b] := by
  have hi := (List.getElem?_eq_some_iff.1 h).1
  rw [List.take_add_one, h]
  simp only [Option.toList_some]
  rw [List.drop_append_of_le_length (by rw [List.length_take]; omega)]
set_option maxHeartbeats 8000000 in
set_option maxRecDepth 100000 in
theorem words_any (l : List UInt8) (w : World) (hl : l.length ≤ 1000000) : Calls Tryz.prog 168 #[stV l] w fun e w' => ∃ ov, e = .returned ov ∧ Strs w' ov (wordsS l) ∧ Kept (fun _ => False) w w' := by
  have hsz := ba_size l
  obtain ⟨i0, hI0, hI1, hI2, hI3⟩ := info_parts infoStr
  go_enter Tryz.func168, Tryz.ntmps168
  go_wp2_with fail
  go_loopw [3, 4, 5] (fun ov fv iv wr => ∃ (i f : Nat) (W : List (List UInt8)), iv = .int .i64 i ∧ fv = .int .i64 f ∧ i ≤ l.length + 1 ∧ f ≤ i ∧ W.length ≤ i ∧ (i ≤ l.length → W ++ wordsG ((l.take i).drop f) (l.drop i) = wordsS l) ∧ (i = l.length + 1 → W = wordsS l) ∧ Strs wr ov W ∧ (∀ g, ov.ownBlock = some g → w.heap.size ≤ g) ∧ Kept (fun _ => False) w wr) (fun _ _ iv _ => l.length + 1 - (intOf iv).toNat)
  case atStart => exact ⟨0, 0, [], rfl, rfl, by omega, by omega, by simp, fun _ => rfl, fun h => by omega, Sl.nil _ _ _, fun g hg => by simp [Value.ownBlock] at hg, Kept.refl _ _⟩
  case round =>
    obtain ⟨i, f, W, rfl, rfl, hi, hf, hW, h1, h2, hO, hown, hK⟩ := hrel
    have H1 := Lib.hid h1
    have H2 := Lib.hid h2
    clear h1 h2
    by_cases hlt : i < l.length
    case pos =>
      have hid : decide ((i : Int) ≤ l.length) = true := decide_eq_true (by omega)
      have hie : ((i : Int) == (l.length : Int)) = false := by simp; omega
      obtain ⟨b, hb⟩ : ∃ b, l[i]? = some b := ⟨_, List.getElem?_eq_getElem hlt⟩
      have hix := st_index hb
      have HB := Lib.hid hb
      have HD := Lib.hid (drop_cons hb)
      have HC := Lib.hid (cut_more hb hf)
      clear hb
      cases hs : ((b.toNat : Int) == 32)
      case false =>
        have HN : Hid (W ++ wordsG ((l.take (i + 1)).drop f) (l.drop (i + 1)) = wordsS l) := Lib.hid (by
          rw [← H1.out (by omega), HD.out, HC.out]
          show _ = W ++ (if spB b = true then _ else wordsG ((l.take i).drop f ++ [b]) (l.drop (i + 1)))
          rw [if_neg (by show ¬ (((b.toNat : Int) == 32) = true); rw [hs]; decide)])
        go_wp2_with fail
        go_roundw
        case rel => exact ⟨i + 1, f, W, by go_num, rfl, by omega, by omega, by omega, fun _ => HN.out, fun h => by omega, hO, hown, hK⟩
        case measure => (simp [intOf]; try omega)
      case true =>
        have hcut := st_cut (l := l) (m := f) (n := i) hf (by omega)
        have HN : Hid ((W ++ [(l.take i).drop f]) ++ wordsG ((l.take (i + 1)).drop (i + 1)) (l.drop (i + 1)) = wordsS l) := Lib.hid (by
          rw [← H1.out (by omega), HD.out]
          show _ = W ++ (if spB b = true then ((l.take i).drop f) :: wordsG [] (l.drop (i + 1)) else _)
          rw [if_pos (show spB b = true from hs), List.append_assoc, show (l.take (i + 1)).drop (i + 1) = [] from List.drop_eq_nil_of_le (by rw [List.length_take]; omega)]
          rfl)
        go_wp2_with (at_builtin; refine wpList_push (w := wr) rfl (.tmp 22) (.tmp 27) 278 rfl Tryz.underlying278 hI0 hI1 hI2 hI3 rfl (by omega) _ (W.map scell) (scell ((l.take i).drop f)) rfl rfl hO rfl (by simp [scell, Value.oneCell']) (by rw [List.length_map]; omega) (by omega) ?_; intro g5 cap5 w5 hS5 hk5 hg5)
        have hS6 : Strs w5 (.slice (some ⟨g5, 0, none⟩) (W.length + 1) cap5) (W ++ [(l.take i).drop f]) := by
          rw [List.length_map] at hS5
          show Sl _ _ _ _ ((_ ++ [_]).map scell)
          rw [List.map_append]
          exact hS5
        go_roundw
        case rel => exact ⟨i + 1, i + 1, W ++ [(l.take i).drop f], by go_num, by go_num, by omega, by omega, by simp; omega, fun _ => HN.out, fun h => by omega, hS6, fun g hg => by
          have e : g5 = g := Option.some.inj hg
          subst e
          rcases hg5 with h | h
          · exact hown _ h
          · have := hK.size
            omega, hK.trans hk5 (fun k hk e => by have := hown k e; omega)⟩
        case measure => (simp [intOf]; try omega)
    case neg =>
      by_cases hend : i = l.length
      case pos =>
        subst hend
        have hid : decide ((l.length : Int) ≤ l.length) = true := decide_eq_true (by omega)
        have hie : ((l.length : Int) == (l.length : Int)) = true := by simp
        have hcut := st_cut (l := l) (m := f) (n := l.length) hf (by omega)
        rw [List.take_length] at hcut
        have HN : Hid (W ++ [l.drop f] = wordsS l) := Lib.hid (by
          rw [← H1.out (by omega), List.drop_length, List.take_length]
          rfl)
        go_wp2_with (at_builtin; refine wpList_push (w := wr) rfl (.tmp 22) (.tmp 27) 278 rfl Tryz.underlying278 hI0 hI1 hI2 hI3 rfl (by omega) _ (W.map scell) (scell (l.drop f)) rfl rfl hO rfl (by simp [scell, Value.oneCell']) (by rw [List.length_map]; omega) (by omega) ?_; intro g5 cap5 w5 hS5 hk5 hg5)
        have hS6 : Strs w5 (.slice (some ⟨g5, 0, none⟩) (W.length + 1) cap5) (W ++ [l.drop f]) := by
          rw [List.length_map] at hS5
          show Sl _ _ _ _ ((_ ++ [_]).map scell)
          rw [List.map_append]
          exact hS5
        go_roundw
        case rel => exact ⟨l.length + 1, l.length + 1, W ++ [l.drop f], by go_num, by go_num, by omega, by omega, by simp; omega, fun h => by omega, fun h => HN.out, hS6, fun g hg => by
          have e : g5 = g := Option.some.inj hg
          subst e
          rcases hg5 with h | h
          · exact hown _ h
          · have := hK.size
            omega, hK.trans hk5 (fun k hk e => by have := hown k e; omega)⟩
        case measure => (simp [intOf]; try omega)
      case neg =>
        obtain rfl : i = l.length + 1 := by omega
        have hid : decide ((((l.length + 1 : Nat)) : Int) ≤ l.length) = false := decide_eq_false (by omega)
        have hR := H2.out rfl
        subst hR
        go_wp2_with fail
        go_ret
        exact ⟨_, rfl, hO, hK⟩

end Go.Proofs.YtdchmelgaljpfaaGreat

set_option linter.unusedSimpArgs false
set_option linter.unusedVariables false
namespace Go.Proofs.YtdchmelgaljpfaaGreat
open Go.RowKit

/-! ### numbers -/
def plainG (n : Nat) : List UInt8 → Option Nat
  | [] => some n
  | b :: r => if b.toNat < 48 ∨ 57 < b.toNat ∨ (18446744073709551615 - (b.toNat - 48)) / 10 < n then none else plainG (10 * n + (b.toNat - 48)) r
def plainS (s : List UInt8) : Option Nat := if s.length = 0 ∨ 20 < s.length ∨ (s[0]? = some 48 ∧ 1 < s.length) then none else plainG 0 s
theorem plainG_lt {n v : Nat} {s : List UInt8} (h : plainG n s = some v) (hn : n < 18446744073709551616) : v < 18446744073709551616 := by
  induction s generalizing n with
  | nil => simp [plainG] at h; omega
  | cons b r ih =>
    unfold plainG at h
    split at h
    · cases h
    · refine ih h ?_
      omega
theorem plainS_lt {v : Nat} {s : List UInt8} (h : plainS s = some v) : v < 18446744073709551616 := by
  unfold plainS at h
  split at h
  · cases h
  · exact plainG_lt h (by omega)
def optV (o : Option Nat) : Value := .tuple #[.int .u64 (o.getD 0 : Nat), .bool o.isSome]
set_option maxHeartbeats 8000000 in
set_option maxRecDepth 100000 in
theorem plain_any (s : List UInt8) (w : World) (hl : s.length ≤ 1000000) : Calls Tryz.prog 225 #[stV s] w fun e w' => e = .returned (optV (plainS s)) ∧ w = w' := by
  have hsz := ba_size s
  by_cases h0 : s.length = 0
  · have hs0 : s = [] := List.length_eq_zero_iff.1 h0
    subst hs0
    have hs1 : (ByteArray.mk #[]).size = 0 := rfl
    clear hsz h0
    go_enter Tryz.func225, Tryz.ntmps225
    go_wp2_with fail
    go_ret2
    exact ⟨rfl, rfl⟩
  have h0d : ((s.length : Int) == 0) = false := beq_eq_false_iff_ne.2 (by omega)
  by_cases h20 : 20 < s.length
  · have hR : plainS s = none := by unfold plainS; rw [if_pos (.inr (.inl h20))]
    rw [hR]
    have h20d : decide ((20 : Int) < s.length) = true := decide_eq_true (by omega)
    go_enter Tryz.func225, Tryz.ntmps225
    go_wp2_with fail
    go_ret2
    exact ⟨rfl, rfl⟩
  have h20d : decide ((20 : Int) < s.length) = false := decide_eq_false (by omega)
  obtain ⟨c, hc⟩ : ∃ c, s[0]? = some c := ⟨_, List.getElem?_eq_getElem (by omega)⟩
  have hix0 : ∀ W, (Instr.index 9 (.string ⟨s.toArray⟩) (.int .i64 0)).run Tryz.prog W = .ok (.int .u8 c.toNat) W := fun W => st_index (i := 0) hc W
  by_cases hz : (s[0]? = some 48 ∧ 1 < s.length)
  · have hR : plainS s = none := by unfold plainS; rw [if_pos (.inr (.inr hz))]
    rw [hR]
    have hc8 : ((c.toNat : Int) == 48) = true := by
      have := hz.1
      rw [hc] at this
      cases this
      rfl
    have h1d : decide ((1 : Int) < s.length) = true := decide_eq_true (by omega)
    clear hz hc
    go_enter Tryz.func225, Tryz.ntmps225
    go_wp2_with fail
    go_ret2
    exact ⟨rfl, rfl⟩
  have hR : plainS s = plainG 0 s := by unfold plainS; rw [if_neg (fun h => h.elim h0 fun h => h.elim h20 hz)]
  rw [hR]
  have hnz : ((c.toNat : Int) == 48) = false ∨ ((c.toNat : Int) == 48) = true ∧ decide ((1 : Int) < s.length) = false := by
    cases h : ((c.toNat : Int) == 48)
    · exact .inl rfl
    · refine .inr ⟨rfl, decide_eq_false fun h1 => hz ⟨?_, by omega⟩⟩
      have : c.toNat = 48 := by simp at h; omega
      rw [hc, show c = 48 from UInt8.toNat_inj.1 this]
  have HS := Lib.hid hl
  clear hz hc hR
  rcases hnz with hq | ⟨hq, hq2⟩
  all_goals
    go_enter Tryz.func225, Tryz.ntmps225
    go_wp2_with fail
    go_loopw [4, 5] (fun nv iv wr => ∃ (i n : Nat), iv = .int .i64 i ∧ nv = .int .u64 n ∧ i ≤ s.length ∧ plainG n (s.drop i) = plainG 0 s ∧ n < 18446744073709551616 ∧ w = wr) (fun _ iv _ => s.length - (intOf iv).toNat)
    case atStart => exact ⟨0, 0, rfl, rfl, by omega, rfl, by omega, rfl⟩
    case round =>
      obtain ⟨i, n, rfl, rfl, hi, hG, hn, rfl⟩ := hrel
      have HG := Lib.hid hG
      clear hG
      by_cases hlt : i < s.length
      case neg =>
        obtain rfl : i = s.length := by omega
        have hid : decide ((s.length : Int) < s.length) = false := decide_eq_false (by omega)
        have HR : Hid (plainG 0 s = some n) := Lib.hid (by rw [← HG.out, List.drop_length]; rfl)
        go_wp2_with fail
        go_ret2
        exact ⟨by rw [HR.out]; rfl, rfl⟩
      case pos =>
        have hid : decide ((i : Int) < s.length) = true := decide_eq_true (by omega)
        obtain ⟨b, hb⟩ : ∃ b, s[i]? = some b := ⟨_, List.getElem?_eq_getElem hlt⟩
        have hix := st_index hb
        have HD := Lib.hid (drop_cons hb)
        have hbl : b.toNat < 256 := b.toNat_lt
        clear hb
        by_cases h48 : b.toNat < 48
        · have hq48 : decide ((b.toNat : Int) < 48) = true := decide_eq_true (by omega)
          have HR : Hid (plainG 0 s = none) := Lib.hid (by
            rw [← HG.out, HD.out]
            show (if _ then _ else _) = _
            rw [if_pos (.inl h48)])
          go_wp2_with fail
          go_ret2
          exact ⟨by rw [HR.out]; rfl, rfl⟩
        · have hq48 : decide ((b.toNat : Int) < 48) = false := decide_eq_false (by omega)
          by_cases h57 : 57 < b.toNat
          · have hq57 : decide ((57 : Int) < b.toNat) = true := decide_eq_true (by omega)
            have HR : Hid (plainG 0 s = none) := Lib.hid (by
              rw [← HG.out, HD.out]
              show (if _ then _ else _) = _
              rw [if_pos (.inr (.inl h57))])
            go_wp2_with fail
            go_ret2
            exact ⟨by rw [HR.out]; rfl, rfl⟩
          · have hq57 : decide ((57 : Int) < b.toNat) = false := decide_eq_false (by omega)
            obtain ⟨d, hd⟩ : ∃ d : Nat, b.toNat = 48 + d := ⟨b.toNat - 48, by omega⟩
            have hd9 : d ≤ 9 := by omega
            have HN : Hid (plainG 0 s = if (18446744073709551615 - d) / 10 < n then none else plainG (10 * n + d) (s.drop (i + 1))) := Lib.hid (by
              rw [← HG.out, HD.out]
              show (if _ then _ else _) = _
              rw [show b.toNat - 48 = d from by omega]
              by_cases hov : (18446744073709551615 - d) / 10 < n
              · rw [if_pos hov, if_pos (.inr (.inr hov))]
              · rw [if_neg hov, if_neg (by omega)])
            rw [hd] at hix hq48 hq57
            by_cases hov : (18446744073709551615 - d) / 10 < n
            · have HR : Hid (plainG 0 s = none) := Lib.hid (by rw [HN.out, if_pos hov])
              have hod : decide ((18446744073709551615 - (d : Int)) / 10 < (n : Int)) = true := decide_eq_true (by omega)
              go_wp2_with fail
              go_ret2
              exact ⟨by rw [HR.out]; rfl, rfl⟩
            · have HR : Hid (plainG (10 * n + d) (s.drop (i + 1)) = plainG 0 s) := Lib.hid (by rw [HN.out, if_neg hov])
              have hod : decide ((18446744073709551615 - (d : Int)) / 10 < (n : Int)) = false := decide_eq_false (by omega)
              have hn2 : 10 * n + d < 18446744073709551616 := by omega
              go_wp2_with fail
              go_roundw
              case rel => exact ⟨i + 1, 10 * n + d, by go_num, by go_num, by omega, HR.out, hn2, by first | trivial | rfl⟩
              case measure => (simp [intOf]; try omega)

end Go.Proofs.YtdchmelgaljpfaaGreat

set_option linter.unusedSimpArgs false
set_option linter.unusedVariables false
namespace Go.Proofs.YtdchmelgaljpfaaGreat
open Go.RowKit

/-! ### numbers with a sign, registers -/
def negB (s : List UInt8) : Bool := match s with
  | [] => false
  | b :: _ => ((b.toNat : Int) == 45)
def rangeS (v least most : Int) : Option Int := if least ≤ v then (if v ≤ most then some v else none) else none
def signS (neg : Bool) (p : Option Nat) (least most : Int) : Option Int := match p with
  | none => none
  | some n => if 4611686018427387904 < n then none else if neg = true then (if n = 0 then none else rangeS (-(n : Int)) least most) else rangeS n least most
def numS (s : List UInt8) (least most : Int) : Option Int := signS (negB s) (plainS (if negB s = true then s.tail else s)) least most
set_option maxHeartbeats 8000000 in
set_option maxRecDepth 100000 in
theorem number_any (s : List UInt8) (least most : Int) (w : World) (hl : s.length ≤ 1000000) (h1 : -9223372036854775808 ≤ least ∧ least ≤ 9223372036854775807) (h2 : -9223372036854775808 ≤ most ∧ most ≤ 9223372036854775807) :
    Calls Tryz.prog 223 #[stV s, .int .i64 least, .int .i64 most] w fun e w' => (∃ x, e = .returned (.tuple #[.int .i64 x, .bool (numS s least most).isSome]) ∧ (∀ v, numS s least most = some v → x = v) ∧ -4611686018427387904 ≤ x ∧ x ≤ 4611686018427387904) ∧ w = w' := by
  have hsz := ba_size s
  have HP := Lib.hid (fun W => plain_any (if negB s = true then s.tail else s) W (by split <;> (first | (rw [List.length_tail]; omega) | omega)))
  have hneg : s = [] ∨ (negB s = false ∧ ∃ b r, s = b :: r ∧ ((b.toNat : Int) == 45) = false) ∨ (negB s = true ∧ ∃ b r, s = b :: r ∧ ((b.toNat : Int) == 45) = true) := by
    cases s with
    | nil => exact .inl rfl
    | cons b r =>
      cases h : ((b.toNat : Int) == 45)
      · exact .inr (.inl ⟨h, b, r, rfl, h⟩)
      · exact .inr (.inr ⟨h, b, r, rfl, h⟩)
  rcases hneg with rfl | ⟨hn, b, r, hs, hq⟩ | ⟨hn, b, r, hs, hq⟩
  · have hR : numS [] least most = none := rfl
    rw [hR]
    have hp0 : plainS (if negB [] = true then List.tail [] else []) = none := rfl
    rw [hp0] at HP
    replace HP : Hid (∀ W, Calls Tryz.prog 225 #[stV []] W fun e w' => e = .returned (.tuple #[.int .u64 0, .bool false]) ∧ W = w') := HP
    have hs1 : (ByteArray.mk #[]).size = 0 := rfl
    go_enter Tryz.func223, Tryz.ntmps223
    go_wp2_with fail
    refine (HP.out _).mono ?_
    rintro e w2 ⟨rfl, rfl⟩
    go_wp2_with fail
    go_ret2
    exact ⟨⟨0, rfl, fun v h => (by cases h), by omega, by omega⟩, rfl⟩
  all_goals
    have hix0 : ∀ W, (Instr.index 9 (.string ⟨s.toArray⟩) (.int .i64 0)).run Tryz.prog W = .ok (.int .u8 b.toNat) W := fun W => st_index (i := 0) (by rw [hs]; rfl) W
    have hct : ∀ W, (Instr.sliceAt 9 (.string ⟨s.toArray⟩) (some (.int .i64 1)) none none).run Tryz.prog W = .ok (stV s.tail) W := fun W => by have := st_post (l := s) (n := 1) (by rw [hs]; simp) W; rwa [List.drop_one] at this
    have hpd : decide ((0 : Int) < s.length) = true := decide_eq_true (by rw [hs]; simp)
    have hps : 0 < s.length := by rw [hs]; simp
    have hnes : s ≠ [] := by rw [hs]; simp
    obtain ⟨R, hR⟩ : ∃ R, numS s least most = R := ⟨_, rfl⟩
    rw [hR]
    unfold numS at hR
    obtain ⟨pl, hpl⟩ : ∃ pl, plainS (if negB s = true then s.tail else s) = pl := ⟨_, rfl⟩
    rw [hpl] at HP hR
    have hplt : ∀ n, pl = some n → n < 18446744073709551616 := fun n hn => plainS_lt (hpl.trans hn)
    rw [hn] at HP hR
    clear hpl hs
  · rw [if_neg (by decide)] at HP
    cases pl with
    | none =>
      replace HP : Hid (∀ W, Calls Tryz.prog 225 #[stV s] W fun e w' => e = .returned (.tuple #[.int .u64 0, .bool false]) ∧ W = w') := HP
      have hR : none = R := hR
      subst hR
      clear hn hplt
      go_enter Tryz.func223, Tryz.ntmps223
      go_wp2_with fail
      refine (HP.out _).mono ?_
      rintro e w2 ⟨rfl, rfl⟩
      go_wp2_with fail
      go_ret2
      exact ⟨⟨0, rfl, fun v h => (by first | (cases h; done) | (cases h; rfl)), by omega, by omega⟩, rfl⟩
    | some n =>
      replace HP : Hid (∀ W, Calls Tryz.prog 225 #[stV s] W fun e w' => e = .returned (.tuple #[.int .u64 n, .bool true]) ∧ W = w') := HP
      have hnl := hplt n rfl
      clear hplt hn
      by_cases hbig : 4611686018427387904 < n
      · have hbd : decide ((4611686018427387904 : Int) < n) = true := decide_eq_true (by omega)
        have hR : none = R := by rw [← hR]; unfold signS; simp only [if_pos hbig]
        subst hR
        go_enter Tryz.func223, Tryz.ntmps223
        go_wp2_with fail
        refine (HP.out _).mono ?_
        rintro e w2 ⟨rfl, rfl⟩
        go_wp2_with fail
        go_ret2
        exact ⟨⟨0, rfl, fun v h => (by first | (cases h; done) | (cases h; rfl)), by omega, by omega⟩, rfl⟩
      have hbd : decide ((4611686018427387904 : Int) < n) = false := decide_eq_false (by omega)
      have hR : rangeS (n : Int) least most = R := by rw [← hR]; unfold signS; simp only [if_neg hbig]; rfl
      unfold rangeS at hR
      by_cases c1 : least ≤ (n : Int)
      · have d1 : decide (least ≤ (n : Int)) = true := decide_eq_true c1
        rw [if_pos c1] at hR
        by_cases c2 : (n : Int) ≤ most
        · have d2 : decide ((n : Int) ≤ most) = true := decide_eq_true c2
          rw [if_pos c2] at hR
          subst hR
          go_enter Tryz.func223, Tryz.ntmps223
          go_wp2_with fail
          refine (HP.out _).mono ?_
          rintro e w2 ⟨rfl, rfl⟩
          go_wp2_with fail
          go_ret2
          exact ⟨⟨(n : Int), rfl, fun v h => (by first | (cases h; done) | (cases h; rfl)), by omega, by omega⟩, rfl⟩
        · have d2 : decide ((n : Int) ≤ most) = false := decide_eq_false c2
          rw [if_neg c2] at hR
          subst hR
          go_enter Tryz.func223, Tryz.ntmps223
          go_wp2_with fail
          refine (HP.out _).mono ?_
          rintro e w2 ⟨rfl, rfl⟩
          go_wp2_with fail
          go_ret2
          exact ⟨⟨(n : Int), rfl, fun v h => (by first | (cases h; done) | (cases h; rfl)), by omega, by omega⟩, rfl⟩
      · have d1 : decide (least ≤ (n : Int)) = false := decide_eq_false c1
        rw [if_neg c1] at hR
        subst hR
        go_enter Tryz.func223, Tryz.ntmps223
        go_wp2_with fail
        refine (HP.out _).mono ?_
        rintro e w2 ⟨rfl, rfl⟩
        go_wp2_with fail
        go_ret2
        exact ⟨⟨(n : Int), rfl, fun v h => (by first | (cases h; done) | (cases h; rfl)), by omega, by omega⟩, rfl⟩
  · rw [if_pos rfl] at HP
    cases pl with
    | none =>
      replace HP : Hid (∀ W, Calls Tryz.prog 225 #[stV s.tail] W fun e w' => e = .returned (.tuple #[.int .u64 0, .bool false]) ∧ W = w') := HP
      have hR : none = R := hR
      subst hR
      clear hn hplt
      go_enter Tryz.func223, Tryz.ntmps223
      go_wp2_with fail
      refine (HP.out _).mono ?_
      rintro e w2 ⟨rfl, rfl⟩
      go_wp2_with fail
      go_ret2
      exact ⟨⟨0, rfl, fun v h => (by first | (cases h; done) | (cases h; rfl)), by omega, by omega⟩, rfl⟩
    | some n =>
      replace HP : Hid (∀ W, Calls Tryz.prog 225 #[stV s.tail] W fun e w' => e = .returned (.tuple #[.int .u64 n, .bool true]) ∧ W = w') := HP
      have hnl := hplt n rfl
      clear hplt hn
      by_cases hbig : 4611686018427387904 < n
      · have hbd : decide ((4611686018427387904 : Int) < n) = true := decide_eq_true (by omega)
        have hR : none = R := by rw [← hR]; unfold signS; simp only [if_pos hbig]
        subst hR
        go_enter Tryz.func223, Tryz.ntmps223
        go_wp2_with fail
        refine (HP.out _).mono ?_
        rintro e w2 ⟨rfl, rfl⟩
        go_wp2_with fail
        go_ret2
        exact ⟨⟨0, rfl, fun v h => (by first | (cases h; done) | (cases h; rfl)), by omega, by omega⟩, rfl⟩
      have hbd : decide ((4611686018427387904 : Int) < n) = false := decide_eq_false (by omega)
      by_cases hz : n = 0
      · subst hz
        have hR : none = R := by rw [← hR]; rfl
        subst hR
        go_enter Tryz.func223, Tryz.ntmps223
        go_wp2_with fail
        refine (HP.out _).mono ?_
        rintro e w2 ⟨rfl, rfl⟩
        go_wp2_with fail
        go_ret2
        exact ⟨⟨0, rfl, fun v h => (by first | (cases h; done) | (cases h; rfl)), by omega, by omega⟩, rfl⟩
      have hzd : ((n : Int) == 0) = false := beq_eq_false_iff_ne.2 (by omega)
      have hR : rangeS (-(n : Int)) least most = R := by rw [← hR]; unfold signS; simp only [if_neg hbig, if_neg hz]; rfl
      unfold rangeS at hR
      by_cases c1 : least ≤ (-(n : Int))
      · have d1 : decide (least ≤ (-(n : Int))) = true := decide_eq_true c1
        rw [if_pos c1] at hR
        by_cases c2 : (-(n : Int)) ≤ most
        · have d2 : decide ((-(n : Int)) ≤ most) = true := decide_eq_true c2
          rw [if_pos c2] at hR
          subst hR
          go_enter Tryz.func223, Tryz.ntmps223
          go_wp2_with fail
          refine (HP.out _).mono ?_
          rintro e w2 ⟨rfl, rfl⟩
          go_wp2_with fail
          go_ret2
          exact ⟨⟨(-(n : Int)), rfl, fun v h => (by first | (cases h; done) | (cases h; rfl)), by omega, by omega⟩, rfl⟩
        · have d2 : decide ((-(n : Int)) ≤ most) = false := decide_eq_false c2
          rw [if_neg c2] at hR
          subst hR
          go_enter Tryz.func223, Tryz.ntmps223
          go_wp2_with fail
          refine (HP.out _).mono ?_
          rintro e w2 ⟨rfl, rfl⟩
          go_wp2_with fail
          go_ret2
          exact ⟨⟨(-(n : Int)), rfl, fun v h => (by first | (cases h; done) | (cases h; rfl)), by omega, by omega⟩, rfl⟩
      · have d1 : decide (least ≤ (-(n : Int))) = false := decide_eq_false c1
        rw [if_neg c1] at hR
        subst hR
        go_enter Tryz.func223, Tryz.ntmps223
        go_wp2_with fail
        refine (HP.out _).mono ?_
        rintro e w2 ⟨rfl, rfl⟩
        go_wp2_with fail
        go_ret2
        exact ⟨⟨(-(n : Int)), rfl, fun v h => (by first | (cases h; done) | (cases h; rfl)), by omega, by omega⟩, rfl⟩

end Go.Proofs.YtdchmelgaljpfaaGreat

set_option linter.unusedSimpArgs false
set_option linter.unusedVariables false
namespace Go.Proofs.YtdchmelgaljpfaaGreat
open Go.RowKit

/-! ### immediates, offsets, registers -/
def ch (s : List UInt8) (i : Nat) : Int := ((s.getD i 0).toNat : Int)
def immS (s : List UInt8) : Option Int := numS s (-2147483648) 2147483647
def offS (s : List UInt8) (most : Int) : Option Int := if s.length < 2 then none else if (ch s 0 == 43) = true then (if (ch s 1 == 45) = true then none else numS s.tail 0 most) else if (ch s 0 == 45) = true then numS s (-most - 1) (-1) else none
def regP (p : Option Nat) : Option Nat := match p with
  | none => none
  | some n => if n ≤ 10 then some n else none
def regS (s : List UInt8) (letter : Int) : Option Nat := if s.length < 2 then none else if (ch s 0 != letter) = true then none else regP (plainS s.tail)
theorem ch_index {s : List UInt8} {i : Nat} (h : i < s.length) (W : World) : (Instr.index 9 (.string ⟨s.toArray⟩) (.int .i64 i)).run Tryz.prog W = .ok (.int .u8 (ch s i)) W := by
  have hb : s[i]? = some s[i] := List.getElem?_eq_getElem h
  rw [st_index hb W]
  unfold ch
  rw [List.getD_eq_getElem?_getD, hb]
  rfl
theorem st_tail {s : List UInt8} (h : 1 ≤ s.length) (W : World) : (Instr.sliceAt 9 (.string ⟨s.toArray⟩) (some (.int .i64 1)) none none).run Tryz.prog W = .ok (stV s.tail) W := by
  have := st_post (l := s) (n := 1) h W
  rwa [List.drop_one] at this
theorem numS_range {s : List UInt8} {a b v : Int} (h : numS s a b = some v) : a ≤ v ∧ v ≤ b := by
  unfold numS signS at h
  have hr : ∀ x, rangeS x a b = some v → a ≤ v ∧ v ≤ b := fun x hx => by
    unfold rangeS at hx
    split at hx
    · split at hx
      · cases hx
        exact ⟨by assumption, by assumption⟩
      · cases hx
    · cases hx
  split at h
  · cases h
  · split at h
    · cases h
    · split at h
      · split at h
        · cases h
        · exact hr _ h
      · exact hr _ h
set_option maxHeartbeats 4000000 in
set_option maxRecDepth 100000 in
theorem imm_any (s : List UInt8) (w : World) (hl : s.length ≤ 1000000) : Calls Tryz.prog 170 #[stV s] w fun e w' => (∃ x, e = .returned (.tuple #[.int .i32 x, .bool (immS s).isSome]) ∧ (∀ v, immS s = some v → x = v)) ∧ w = w' := by
  have HN := Lib.hid (fun W => number_any s (-2147483648) 2147483647 W hl (by omega) (by omega))
  have HRG : Hid (∀ v, immS s = some v → -2147483648 ≤ v ∧ v ≤ 2147483647) := Lib.hid (fun v hv => numS_range hv)
  have hI : numS s (-2147483648) 2147483647 = immS s := rfl
  rw [hI] at HN
  generalize immS s = R at *
  clear hI
  go_enter Tryz.func170, Tryz.ntmps170
  go_wp2_with fail
  refine (HN.out _).mono ?_
  rintro e w1 ⟨⟨x, rfl, hx, hx1, hx2⟩, rfl⟩
  have HX := Lib.hid hx
  clear hx
  go_wp2_with fail
  go_ret2
  refine ⟨⟨_, rfl, fun v hv => ?_⟩, rfl⟩
  have h1 := HX.out v hv
  have h2 := HRG.out v hv
  subst h1
  first | omega | (unfold wrap32; omega) | (simp [wrap32]; omega)
set_option maxHeartbeats 4000000 in
set_option maxRecDepth 100000 in
theorem off_any (s : List UInt8) (most : Int) (w : World) (hl : s.length ≤ 1000000) (hm : 0 ≤ most ∧ most ≤ 2147483647) : Calls Tryz.prog 169 #[stV s, .int .i64 most] w fun e w' => (∃ x, e = .returned (.tuple #[.int .i64 x, .bool (offS s most).isSome]) ∧ (∀ v, offS s most = some v → x = v) ∧ -4611686018427387904 ≤ x ∧ x ≤ 4611686018427387904) ∧ w = w' := by
  have hsz := ba_size s
  obtain ⟨R, hR⟩ : ∃ R, offS s most = R := ⟨_, rfl⟩
  rw [hR]
  unfold offS at hR
  by_cases h2 : s.length < 2
  · rw [if_pos h2] at hR
    subst hR
    have hd2 : decide ((s.length : Int) < 2) = true := decide_eq_true (by omega)
    go_enter Tryz.func169, Tryz.ntmps169
    go_wp2_with fail
    go_ret2
    exact ⟨⟨0, rfl, fun v h => by (cases h), by omega, by omega⟩, rfl⟩
  have hd2 : decide ((s.length : Int) < 2) = false := decide_eq_false (by omega)
  rw [if_neg h2] at hR
  have hix0 : ∀ W, (Instr.index 9 (.string ⟨s.toArray⟩) (.int .i64 0)).run Tryz.prog W = .ok (.int .u8 (ch s 0)) W := fun W => ch_index (i := 0) (by omega) W
  have hix1 : ∀ W, (Instr.index 9 (.string ⟨s.toArray⟩) (.int .i64 1)).run Tryz.prog W = .ok (.int .u8 (ch s 1)) W := fun W => ch_index (i := 1) (by omega) W
  have hct := fun W => st_tail (s := s) (by omega) W
  have hps : 2 ≤ s.length := by omega
  have HN1 := Lib.hid (fun W => number_any s.tail 0 most W (by rw [List.length_tail]; omega) (by omega) (by omega))
  have HN2 := Lib.hid (fun W => number_any s (-most - 1) (-1) W hl (by omega) (by omega))
  generalize numS s.tail 0 most = R1 at *
  generalize numS s (-most - 1) (-1) = R2 at *
  generalize ch s 0 = a0 at *
  generalize ch s 1 = a1 at *
  cases q43 : (a0 == 43)
  case true =>
    have q43n : (a0 != 43) = false := by simp only [bne, q43]; rfl
    rw [if_pos q43] at hR
    cases q45 : (a1 == 45)
    case true =>
      rw [if_pos q45] at hR
      subst hR
      go_enter Tryz.func169, Tryz.ntmps169
      go_wp2_with fail
      go_ret2
      exact ⟨⟨0, rfl, fun v h => by (cases h), by omega, by omega⟩, rfl⟩
    case false =>
      rw [if_neg (by rw [q45]; decide)] at hR
      subst hR
      go_enter Tryz.func169, Tryz.ntmps169
      go_wp2_with fail
      refine (HN1.out _).mono ?_
      rintro e w1 ⟨⟨x, rfl, hx, hx1, hx2⟩, rfl⟩
      have HX := Lib.hid hx
      clear hx
      go_wp2_with fail
      go_ret2
      exact ⟨⟨x, rfl, HX.out, hx1, hx2⟩, rfl⟩
  case false =>
    have q43n : (a0 != 43) = true := by simp only [bne, q43]; rfl
    rw [if_neg (by rw [q43]; decide)] at hR
    cases q45 : (a0 == 45)
    case false =>
      have q45n : (a0 != 45) = true := by simp only [bne, q45]; rfl
      rw [if_neg (by rw [q45]; decide)] at hR
      subst hR
      go_enter Tryz.func169, Tryz.ntmps169
      go_wp2_with fail
      go_ret2
      exact ⟨⟨0, rfl, fun v h => by (cases h), by omega, by omega⟩, rfl⟩
    case true =>
      have q45n : (a0 != 45) = false := by simp only [bne, q45]; rfl
      rw [if_pos q45] at hR
      subst hR
      go_enter Tryz.func169, Tryz.ntmps169
      go_wp2_with fail
      refine (HN2.out _).mono ?_
      rintro e w1 ⟨⟨x, rfl, hx, hx1, hx2⟩, rfl⟩
      have HX := Lib.hid hx
      clear hx
      go_wp2_with fail
      go_ret2
      exact ⟨⟨x, rfl, HX.out, hx1, hx2⟩, rfl⟩
set_option maxHeartbeats 4000000 in
set_option maxRecDepth 100000 in
theorem register_any (s : List UInt8) (letter : Int) (w : World) (hl : s.length ≤ 1000000) : Calls Tryz.prog 173 #[stV s, .int .u8 letter] w fun e w' => (∃ x, e = .returned (.tuple #[.int .u8 x, .bool (regS s letter).isSome]) ∧ (∀ v, regS s letter = some v → x = v)) ∧ w = w' := by
  have hsz := ba_size s
  obtain ⟨R, hR⟩ : ∃ R, regS s letter = R := ⟨_, rfl⟩
  rw [hR]
  unfold regS at hR
  by_cases h2 : s.length < 2
  · rw [if_pos h2] at hR
    subst hR
    have hd2 : decide ((s.length : Int) < 2) = true := decide_eq_true (by omega)
    go_enter Tryz.func173, Tryz.ntmps173
    go_wp2_with fail
    go_ret2
    exact ⟨⟨0, rfl, fun v h => by (cases h)⟩, rfl⟩
  have hd2 : decide ((s.length : Int) < 2) = false := decide_eq_false (by omega)
  rw [if_neg h2] at hR
  have hix0 : ∀ W, (Instr.index 9 (.string ⟨s.toArray⟩) (.int .i64 0)).run Tryz.prog W = .ok (.int .u8 (ch s 0)) W := fun W => ch_index (i := 0) (by omega) W
  have hct := fun W => st_tail (s := s) (by omega) W
  have hps : 2 ≤ s.length := by omega
  have HP := Lib.hid (fun W => plain_any s.tail W (by rw [List.length_tail]; omega))
  generalize hpp : plainS s.tail = pl at *
  have hplt : ∀ n, pl = some n → n < 18446744073709551616 := fun n hn => plainS_lt (hpp.trans hn)
  clear hpp
  generalize ch s 0 = a0 at *
  cases q : (a0 != letter)
  case true =>
    rw [if_pos q] at hR
    subst hR
    go_enter Tryz.func173, Tryz.ntmps173
    go_wp2_with fail
    go_ret2
    exact ⟨⟨0, rfl, fun v h => by (cases h)⟩, rfl⟩
  case false =>
    rw [if_neg (by rw [q]; decide)] at hR
    cases pl with
    | none =>
      replace HP : Hid (∀ W, Calls Tryz.prog 225 #[stV s.tail] W fun e w' => e = .returned (.tuple #[.int .u64 0, .bool false]) ∧ W = w') := HP
      have hR : none = R := hR
      subst hR
      clear hplt
      go_enter Tryz.func173, Tryz.ntmps173
      go_wp2_with fail
      refine (HP.out _).mono ?_
      rintro e w1 ⟨rfl, rfl⟩
      go_wp2_with fail
      go_ret2
      exact ⟨⟨0, rfl, fun v h => by (cases h)⟩, rfl⟩
    | some n =>
      replace HP : Hid (∀ W, Calls Tryz.prog 225 #[stV s.tail] W fun e w' => e = .returned (.tuple #[.int .u64 n, .bool true]) ∧ W = w') := HP
      have hnl := hplt n rfl
      clear hplt
      by_cases h10 : n ≤ 10
      · have hd10 : decide ((n : Int) ≤ 10) = true := decide_eq_true (by omega)
        have hR : some n = R := by rw [← hR]; unfold regP; simp only [if_pos h10]
        subst hR
        go_enter Tryz.func173, Tryz.ntmps173
        go_wp2_with fail
        refine (HP.out _).mono ?_
        rintro e w1 ⟨rfl, rfl⟩
        go_wp2_with fail
        go_ret2
        exact ⟨⟨n, rfl, fun v h => by (cases h; rfl)⟩, rfl⟩
      · have hd10 : decide ((n : Int) ≤ 10) = false := decide_eq_false (by omega)
        have hR : none = R := by rw [← hR]; unfold regP; simp only [if_neg h10]
        subst hR
        go_enter Tryz.func173, Tryz.ntmps173
        go_wp2_with fail
        refine (HP.out _).mono ?_
        rintro e w1 ⟨rfl, rfl⟩
        go_wp2_with fail
        go_ret2
        exact ⟨⟨_, rfl, fun v h => by (cases h)⟩, rfl⟩

end Go.Proofs.YtdchmelgaljpfaaGreat

set_option linter.unusedSimpArgs false
set_option linter.unusedVariables false
namespace Go.Proofs.YtdchmelgaljpfaaGreat
open Go.RowKit

/-! ### a place: a size and an address -/
def szS (k : Nat) : List UInt8 := match k with
  | 0 => [42, 40, 117, 51, 50]
  | 1 => [42, 40, 117, 49, 54]
  | 2 => [42, 40, 117, 56]
  | 3 => [42, 40, 117, 54, 52]
  | _ => []
/-- the size's operation, by the first so many names -/
def szU (a : List UInt8) : Nat → Int
  | 0 => 0
  | k + 1 => if (szS k == a) = true then 96 + 8 * (k : Int) else szU a k
def sizeS (a : List UInt8) : Int := szU a 4
theorem szU_cases (a : List UInt8) (k : Nat) (h : k ≤ 4) : szU a k = 0 ∨ szU a k = 96 ∨ szU a k = 104 ∨ szU a k = 112 ∨ szU a k = 120 := by
  have h1 : ∀ k, k ≤ 4 → szU a k = 0 ∨ ∃ j : Nat, j < 4 ∧ szU a k = 96 + 8 * (j : Int) := by
    intro k
    induction k with
    | zero => exact fun _ => .inl rfl
    | succ k ih =>
      intro hk
      show (if (szS k == a) = true then 96 + 8 * (k : Int) else szU a k) = 0 ∨ ∃ j : Nat, j < 4 ∧ (if (szS k == a) = true then 96 + 8 * (k : Int) else szU a k) = 96 + 8 * (j : Int)
      split
      · exact .inr ⟨k, by omega, rfl⟩
      · exact ih (by omega)
  rcases h1 k h with h | ⟨j, hj, h⟩
  · exact .inl h
  · omega
def pairP (op : Int) (r : Option Nat) (o : Option Int) : Option (Int × Nat × Int) := match r, o with
  | some r, some o => some (op, r, o)
  | _, _ => none
def placeS (a b c : List UInt8) : Option (Int × Nat × Int) := if (sizeS a == 0) = true then none else if b.length < 4 then none else if (b.take 3 == [42, 41, 40]) = false then none else if c.length < 2 then none
  else if (ch c (c.length - 1) != 41) = true then none else pairP (sizeS a) (regS (b.drop 3) 114) (offS (c.take (c.length - 1)) 32767)
theorem offS_range {s : List UInt8} {m v : Int} (h : offS s m = some v) (hm : 0 ≤ m) : -m - 1 ≤ v ∧ v ≤ m := by
  unfold offS at h
  split at h
  · cases h
  · split at h
    · split at h
      · cases h
      · have := numS_range h
        omega
    · split at h
      · have := numS_range h
        omega
      · cases h
set_option maxHeartbeats 8000000 in
set_option maxRecDepth 100000 in
theorem place_any (a b c : List UInt8) (w : World) (ha : a.length ≤ 1000000) (hb : b.length ≤ 1000000) (hc : c.length ≤ 1000000) : Calls Tryz.prog 172 #[stV a, stV b, stV c] w fun e w' =>
    (∃ x y z, e = .returned (.tuple #[.int .u8 x, .int .u8 y, .int .i16 z, .bool (placeS a b c).isSome]) ∧ (∀ v, placeS a b c = some v → x = v.1 ∧ y = v.2.1 ∧ z = v.2.2)) ∧ Kept (fun _ => False) w w' := by
  have hszb := ba_size b
  have hszc := ba_size c
  obtain ⟨R, hR⟩ : ∃ R, placeS a b c = R := ⟨_, rfl⟩
  rw [hR]
  unfold placeS at hR
  have HR := Lib.hid hR
  clear hR
  go_enter Tryz.func172, Tryz.ntmps172
  go_wp2_with fail
  go_loopw [11, 12] (fun ov iv wr => ∃ j : Int, iv = .int .i64 j ∧ ov = .int .u8 (szU a j.toNat) ∧ 0 ≤ j ∧ j ≤ 4 ∧ w.alloc (.cells #[.string ⟨#[42, 40, 117, 51, 50]⟩, .string ⟨#[42, 40, 117, 49, 54]⟩, .string ⟨#[42, 40, 117, 56]⟩, .string ⟨#[42, 40, 117, 54, 52]⟩] 326) = wr) (fun _ iv _ => 4 - (intOf iv).toNat)
  case atStart => exact ⟨0, rfl, rfl, by omega, by omega, rfl⟩
  case round =>
    obtain ⟨j, rfl, rfl, hj0, hj4, rfl⟩ := hrel
    have hj5 : j = 0 ∨ j = 1 ∨ j = 2 ∨ j = 3 ∨ j = 4 := by omega
    clear hj0 hj4
    rcases hj5 with rfl | rfl | rfl | rfl | rfl
    · have HU : Hid (szU a 1 = if (szS 0 == a) = true then 96 else szU a 0) := Lib.hid rfl
      simp only [Int.reduceToNat]
      cases hq : ([42,40,117,51,50] == a)
      all_goals
        have HQ : Hid ((szS 0 == a) = _) := Lib.hid hq
        generalize szU a 0 = ov at *
        go_wp2_with fail
        go_roundw
        case rel => first | exact ⟨1, rfl, congrArg (Value.int .u8) (by show _ = szU a 1; rw [HU.out, HQ.out]; rfl), by omega, by omega, by first | trivial | rfl⟩
        case measure => (simp [intOf]; try omega)
    · have HU : Hid (szU a 2 = if (szS 1 == a) = true then 104 else szU a 1) := Lib.hid rfl
      simp only [Int.reduceToNat]
      cases hq : ([42,40,117,49,54] == a)
      all_goals
        have HQ : Hid ((szS 1 == a) = _) := Lib.hid hq
        generalize szU a 1 = ov at *
        go_wp2_with fail
        go_roundw
        case rel => first | exact ⟨2, rfl, congrArg (Value.int .u8) (by show _ = szU a 2; rw [HU.out, HQ.out]; rfl), by omega, by omega, by first | trivial | rfl⟩
        case measure => (simp [intOf]; try omega)
    · have HU : Hid (szU a 3 = if (szS 2 == a) = true then 112 else szU a 2) := Lib.hid rfl
      simp only [Int.reduceToNat]
      cases hq : ([42,40,117,56] == a)
      all_goals
        have HQ : Hid ((szS 2 == a) = _) := Lib.hid hq
        generalize szU a 2 = ov at *
        go_wp2_with fail
        go_roundw
        case rel => first | exact ⟨3, rfl, congrArg (Value.int .u8) (by show _ = szU a 3; rw [HU.out, HQ.out]; rfl), by omega, by omega, by first | trivial | rfl⟩
        case measure => (simp [intOf]; try omega)
    · have HU : Hid (szU a 4 = if (szS 3 == a) = true then 120 else szU a 3) := Lib.hid rfl
      simp only [Int.reduceToNat]
      cases hq : ([42,40,117,54,52] == a)
      all_goals
        have HQ : Hid ((szS 3 == a) = _) := Lib.hid hq
        generalize szU a 3 = ov at *
        go_wp2_with fail
        go_roundw
        case rel => first | exact ⟨4, rfl, congrArg (Value.int .u8) (by show _ = szU a 4; rw [HU.out, HQ.out]; rfl), by omega, by omega, by first | trivial | rfl⟩
        case measure => (simp [intOf]; try omega)
    · have hK1 : Kept (fun _ => False) w (w.alloc (.cells #[.string ⟨#[42, 40, 117, 51, 50]⟩, .string ⟨#[42, 40, 117, 49, 54]⟩, .string ⟨#[42, 40, 117, 56]⟩, .string ⟨#[42, 40, 117, 54, 52]⟩] 326)) := (Kept.refl _ w).alloc _
      have hsz0 : 0 ≤ szU a 4 ∧ szU a 4 ≤ 120 := by have := szU_cases a 4 (by omega); omega
      have hR := HR.out
      clear HR
      unfold sizeS at hR
      simp only [Int.reduceToNat]
      generalize szU a 4 = op at *
      cases c1 : (op == 0)
      case true =>
        rw [if_pos c1] at hR
        subst hR
        go_wp2_with fail
        refine bodyPost_ret (v := .tuple #[.int .u8 0, .int .u8 0, .int .i16 0, .bool false]) (by simp [results, Tryz.results172, go_sem]) rfl ?_
        exact ⟨⟨0, 0, 0, rfl, fun v h => by (cases h)⟩, hK1⟩
      case false =>
      rw [if_neg (by rw [c1]; decide)] at hR
      by_cases hb4 : b.length < 4
      · have hbd : decide ((b.length : Int) < 4) = true := decide_eq_true (by omega)
        rw [if_pos hb4] at hR
        subst hR
        go_wp2_with fail
        refine bodyPost_ret (v := .tuple #[.int .u8 0, .int .u8 0, .int .i16 0, .bool false]) (by simp [results, Tryz.results172, go_sem]) rfl ?_
        exact ⟨⟨0, 0, 0, rfl, fun v h => by (cases h)⟩, hK1⟩
      have hbd : decide ((b.length : Int) < 4) = false := decide_eq_false (by omega)
      rw [if_neg hb4] at hR
      have hb3 : ∀ W, (Instr.sliceAt 9 (.string ⟨b.toArray⟩) none (some (.int .i64 3)) none).run Tryz.prog W = .ok (stV (b.take 3)) W := fun W => st_pre (l := b) (n := 3) (by omega) W
      have hb3d : ∀ W, (Instr.sliceAt 9 (.string ⟨b.toArray⟩) (some (.int .i64 3)) none none).run Tryz.prog W = .ok (stV (b.drop 3)) W := fun W => st_post (l := b) (n := 3) (by omega) W
      cases c3 : (b.take 3 == [42, 41, 40])
      case false =>
        have c3n : (!(b.take 3 == [42, 41, 40])) = true := by rw [c3]; rfl
        rw [if_pos c3] at hR
        subst hR
        go_wp2_with fail
        refine bodyPost_ret (v := .tuple #[.int .u8 0, .int .u8 0, .int .i16 0, .bool false]) (by simp [results, Tryz.results172, go_sem]) rfl ?_
        exact ⟨⟨0, 0, 0, rfl, fun v h => by (cases h)⟩, hK1⟩
      case true =>
      have c3n : (!(b.take 3 == [42, 41, 40])) = false := by rw [c3]; rfl
      rw [if_neg (by rw [c3]; decide)] at hR
      by_cases hc2 : c.length < 2
      · have hcd : decide ((c.length : Int) < 2) = true := decide_eq_true (by omega)
        rw [if_pos hc2] at hR
        subst hR
        go_wp2_with fail
        refine bodyPost_ret (v := .tuple #[.int .u8 0, .int .u8 0, .int .i16 0, .bool false]) (by simp [results, Tryz.results172, go_sem]) rfl ?_
        exact ⟨⟨0, 0, 0, rfl, fun v h => by (cases h)⟩, hK1⟩
      have hcd : decide ((c.length : Int) < 2) = false := decide_eq_false (by omega)
      rw [if_neg hc2] at hR
      have hcl : ((c.length : Int) - 1) = ((c.length - 1 : Nat) : Int) := by omega
      have hci : ∀ W, (Instr.index 9 (.string ⟨c.toArray⟩) (.int .i64 ((c.length : Int) - 1))).run Tryz.prog W = .ok (.int .u8 (ch c (c.length - 1))) W := fun W => by
        rw [hcl]
        exact ch_index (by omega) W
      have hcc : ∀ W, (Instr.sliceAt 9 (.string ⟨c.toArray⟩) none (some (.int .i64 ((c.length : Int) - 1))) none).run Tryz.prog W = .ok (stV (c.take (c.length - 1))) W := fun W => by
        rw [hcl]
        exact st_pre (by omega) W
      have HRG := Lib.hid (fun W => register_any (b.drop 3) 114 W (by rw [List.length_drop]; omega))
      have HOF := Lib.hid (fun W => off_any (c.take (c.length - 1)) 32767 W (by rw [List.length_take]; omega) (by omega))
      have HOR : Hid (∀ v, offS (c.take (c.length - 1)) 32767 = some v → -32768 ≤ v ∧ v ≤ 32767) := Lib.hid (fun v hv => by have := offS_range hv (by omega); omega)
      clear hcl
      generalize ch c (c.length - 1) = cl at *
      generalize c.take (c.length - 1) = ct at *
      generalize b.drop 3 = bt at *
      cases c5 : (cl != 41)
      case true =>
        rw [if_pos c5] at hR
        subst hR
        go_wp2_with fail
        refine bodyPost_ret (v := .tuple #[.int .u8 0, .int .u8 0, .int .i16 0, .bool false]) (by simp [results, Tryz.results172, go_sem]) rfl ?_
        exact ⟨⟨0, 0, 0, rfl, fun v h => by (cases h)⟩, hK1⟩
      case false =>
        rw [if_neg (by rw [c5]; decide)] at hR
        generalize regS bt 114 = rr at *
        generalize offS ct 32767 = oo at *
        have hps : 4 ≤ b.length := by omega
        have hpc : 2 ≤ c.length := by omega
        go_wp2_with fail
        refine (HRG.out _).mono ?_
        rintro e w2 ⟨⟨x, rfl, hx⟩, rfl⟩
        have HX := Lib.hid hx
        clear hx
        go_wp2_with fail
        refine (HOF.out _).mono ?_
        rintro e w3 ⟨⟨z, rfl, hz, hz1, hz2⟩, rfl⟩
        have HZ := Lib.hid hz
        clear hz
        cases rr with
        | none =>
          have hR : none = R := by rw [← hR]; unfold pairP; cases oo <;> rfl
          subst hR
          go_wp2_with fail
          refine bodyPost_ret (v := .tuple #[.int .u8 op, .int .u8 x, .int .i16 (IntKind.i16.wrap z), .bool false]) (by simp [results, Tryz.results172, go_sem]) rfl ?_
          exact ⟨⟨_, _, _, rfl, fun v h => by (cases h)⟩, hK1⟩
        | some r =>
          cases oo with
          | none =>
            have hR : none = R := by rw [← hR]; rfl
            subst hR
            go_wp2_with fail
            refine bodyPost_ret (v := .tuple #[.int .u8 op, .int .u8 x, .int .i16 (IntKind.i16.wrap z), .bool false]) (by simp [results, Tryz.results172, go_sem]) rfl ?_
            exact ⟨⟨_, _, _, rfl, fun v h => by (cases h)⟩, hK1⟩
          | some o =>
            have hR : some (op, r, o) = R := by rw [← hR]; rfl
            subst hR
            go_wp2_with fail
            refine bodyPost_ret (v := .tuple #[.int .u8 op, .int .u8 x, .int .i16 (IntKind.i16.wrap z), .bool true]) (by simp [results, Tryz.results172, go_sem]) rfl ?_
            refine ⟨⟨_, _, _, rfl, fun v h => ?_⟩, hK1⟩
            cases h
            have e1 := HX.out r rfl
            have e2 := HZ.out o rfl
            have e3 := HOR.out o rfl
            refine ⟨rfl, e1, ?_⟩
            rw [e2]
            simp [IntKind.wrap, IntKind.bits, IntKind.signed]
            omega

end Go.Proofs.YtdchmelgaljpfaaGreat

set_option linter.unusedSimpArgs false
set_option linter.unusedVariables false
namespace Go.Proofs.YtdchmelgaljpfaaGreat
open Go.RowKit

/-! ### numbers as text -/
def decG : Nat → Nat → List UInt8
  | 0, _ => []
  | f + 1, n => if n < 10 then [UInt8.ofNat (48 + n)] else decG f (n / 10) ++ [UInt8.ofNat (48 + n % 10)]
def decS (n : Nat) : List UInt8 := decG 21 n
set_option maxHeartbeats 4000000 in
set_option maxRecDepth 100000 in
theorem rPlain_any (n : Nat) (w : World) (hn : n < 18446744073709551616) : Calls Tryz.prog 258 #[.int .u64 n] w fun e w' => e = .returned (stV (decS n)) ∧ Kept (fun _ => False) w w' := by
  go_enter Tryz.func258, Tryz.ntmps258
  go_wp2_with fail
  go_loopg [0, 3] 21 (fun k nv sv wr => ∃ (m : Nat) (s : List UInt8), nv = .int .u64 m ∧ sv = stV s ∧ decG k m ++ s = decS n ∧ m < 10 ^ k ∧ m < 18446744073709551616 ∧ 1 ≤ k ∧ s.length + k ≤ 21 ∧ Kept (fun _ => False) w wr)
  case atStart => exact ⟨n, [], rfl, rfl, by simp [decS], by omega, hn, by omega, by simp, Kept.refl _ _⟩
  case round =>
    obtain ⟨m, s, rfl, rfl, hd, hm10, hm, hk, hsl, hK⟩ := hrel
    have HD := Lib.hid hd
    have HM := Lib.hid hm10
    clear hd hm10
    have hx8 : ((UInt8.ofNat (48 + m % 10)).toNat : Int) = 48 + (m : Int) % 10 := by
      have : (UInt8.ofNat (48 + m % 10)).toNat = (48 + m % 10) % 256 := by first | exact UInt8.toNat_ofNat' | simp
      rw [this]
      omega
    have hcv : (convert 45 9 (.slice (some ⟨wr.heap.size, 0, none⟩) 1 1)).run Tryz.prog (wr.alloc (.cells #[.int .u8 (48 + (m : Int) % 10)] 5)) = .ok (stV [UInt8.ofNat (48 + m % 10)]) (wr.alloc (.cells #[.int .u8 (48 + (m : Int) % 10)] 5)) := by
      refine run_convert_bytes_back (P := Tryz.prog) _ _ _ 5 ⟨wr.heap.size, 0, none⟩ 1 [UInt8.ofNat (48 + m % 10)] Tryz.underlying45 Tryz.underlying5 Tryz.underlying9 (fun j hj => ?_)
      obtain rfl : j = 0 := by simpa using hj
      have hb := Blk.new wr 5 #[.int .u8 (48 + (m : Int) % 10)]
      show World.cell? _ ⟨wr.heap.size, 0, none⟩ = _
      rw [hb.cell 0]
      show some (Value.int .u8 (48 + (m : Int) % 10)) = some (Value.int .u8 ((UInt8.ofNat (48 + m % 10)).toNat : Int))
      rw [hx8]
    have hadd : ∀ W, (Op.stringOp .add ⟨[UInt8.ofNat (48 + m % 10)].toArray⟩ ⟨s.toArray⟩).run Tryz.prog W = .ok (stV (UInt8.ofNat (48 + m % 10) :: s)) W := fun W => by
      have := run_string_add_lists (P := Tryz.prog) (w := W) [UInt8.ofNat (48 + m % 10)] s (by simp) (by omega)
      exact this
    obtain ⟨k, rfl⟩ : ∃ k, gk = k + 1 := ⟨gk - 1, by omega⟩
    have HX := Lib.hid hx8
    clear hx8
    by_cases h10 : m < 10
    · have hq : (((m : Int) / 10) == 0) = true := by
        have : (m : Int) / 10 = 0 := by omega
        rw [this]
        rfl
      have HR : Hid (UInt8.ofNat (48 + m % 10) :: s = decS n) := Lib.hid (by
        rw [← HD.out]
        show _ = (if m < 10 then [UInt8.ofNat (48 + m)] else decG k (m / 10) ++ [UInt8.ofNat (48 + m % 10)]) ++ s
        rw [if_pos h10, Nat.mod_eq_of_lt h10]
        rfl)
      generalize UInt8.ofNat (48 + m % 10) = x at *
      go_wp2_with fail
      go_ret
      exact ⟨by rw [← HR.out]; rfl, hK.alloc _⟩
    · have hq : (((m : Int) / 10) == 0) = false := by
        have : (m : Int) / 10 ≠ 0 := by omega
        exact beq_eq_false_iff_ne.2 this
      have HR : Hid (decG k (m / 10) ++ (UInt8.ofNat (48 + m % 10) :: s) = decS n) := Lib.hid (by
        rw [← HD.out]
        show _ = (if m < 10 then [UInt8.ofNat (48 + m)] else decG k (m / 10) ++ [UInt8.ofNat (48 + m % 10)]) ++ s
        rw [if_neg h10, List.append_assoc]
        rfl)
      have HM2 : Hid (m / 10 < 10 ^ k ∧ 1 ≤ k) := Lib.hid (by
        have h1 := HM.out
        rw [Nat.pow_succ] at h1
        refine ⟨Nat.div_lt_of_lt_mul (by rw [Nat.mul_comm]; exact h1), ?_⟩
        rcases Nat.eq_zero_or_pos k with rfl | h
        · simp at h1; omega
        · exact h)
      generalize UInt8.ofNat (48 + m % 10) = x at *
      go_wp2_with fail
      go_roundg k
      case measure => omega
      case rel => exact ⟨m / 10, x :: s, by go_num, rfl, HR.out, HM2.out.1, by omega, HM2.out.2, by simp; omega, hK.alloc _⟩
theorem decG_len (f n : Nat) : (decG f n).length ≤ f := by
  induction f generalizing n with
  | zero => exact Nat.le_refl _
  | succ f ih =>
    show (if n < 10 then [UInt8.ofNat (48 + n)] else decG f (n / 10) ++ [UInt8.ofNat (48 + n % 10)]).length ≤ _
    split
    · simp
    · have := ih (n / 10)
      simp
      omega
def numT (n : Int) : List UInt8 := if n < 0 then 45 :: decS (-n).toNat else decS n.toNat
set_option maxHeartbeats 4000000 in
set_option maxRecDepth 100000 in
theorem rNumber_any (n : Int) (w : World) (hn : -9223372036854775808 ≤ n ∧ n ≤ 9223372036854775807) : Calls Tryz.prog 255 #[.int .i64 n] w fun e w' => e = .returned (stV (numT n)) ∧ Kept (fun _ => False) w w' := by
  unfold numT
  by_cases h : n < 0
  · have hd : decide (n < 0) = true := decide_eq_true h
    obtain ⟨m, rfl⟩ : ∃ m : Nat, n = -(m : Int) := ⟨(-n).toNat, by omega⟩
    rw [if_pos h, show (-(-(m : Int))).toNat = m from by omega]
    have HP := Lib.hid (fun W => rPlain_any m W (by omega))
    have hdl : (decS m).length ≤ 21 := decG_len 21 m
    have hadd : ∀ W, (Op.stringOp .add ⟨#[45]⟩ ⟨(decS m).toArray⟩).run Tryz.prog W = .ok (stV (45 :: decS m)) W := fun W => run_string_add_lists (P := Tryz.prog) (w := W) [45] (decS m) (by simp) (by omega)
    generalize decS m = s at *
    have hm : (m : Int) ≤ 9223372036854775808 := by omega
    go_enter Tryz.func255, Tryz.ntmps255
    have hw : IntKind.u64.wrap (-IntKind.u64.wrap (-(m : Int))) = m := by
      rw [IntKind.wrap_u64, IntKind.wrap_u64]
      omega
    go_wp2_with fail
    refine (HP.out _).mono ?_
    rintro e w1 ⟨rfl, hk⟩
    go_wp2_with fail
    go_ret
    exact ⟨rfl, hk⟩
  · have hd : decide (n < 0) = false := decide_eq_false h
    obtain ⟨m, rfl⟩ : ∃ m : Nat, n = (m : Int) := ⟨n.toNat, by omega⟩
    rw [if_neg h, show ((m : Int)).toNat = m from rfl]
    have HP := Lib.hid (fun W => rPlain_any m W (by omega))
    go_enter Tryz.func255, Tryz.ntmps255
    go_wp2_with fail
    refine (HP.out _).mono ?_
    rintro e w1 ⟨rfl, hk⟩
    go_wp2_with fail
    go_ret
    exact ⟨rfl, hk⟩

end Go.Proofs.YtdchmelgaljpfaaGreat

set_option linter.unusedSimpArgs false
set_option linter.unusedVariables false
namespace Go.Proofs.YtdchmelgaljpfaaGreat
open Go.RowKit

/-! ### signs -/
def cmpS (k : Nat) : List UInt8 := match k with
  | 0 => []
  | 1 => [61, 61]
  | 2 => [62]
  | 3 => [62, 61]
  | 4 => [38]
  | 5 => [33, 61]
  | 6 => [115, 62]
  | 7 => [115, 62, 61]
  | 8 => []
  | 9 => []
  | 10 => [60]
  | 11 => [60, 61]
  | 12 => [115, 60]
  | 13 => [115, 60, 61]
  | _ => []
def aluS (k : Nat) : List UInt8 := match k with
  | 0 => [43, 61]
  | 1 => [45, 61]
  | 2 => [42, 61]
  | 3 => [47, 61]
  | 4 => [124, 61]
  | 5 => [38, 61]
  | 6 => [60, 60, 61]
  | 7 => [62, 62, 61]
  | 8 => []
  | 9 => [37, 61]
  | 10 => [94, 61]
  | 11 => [61]
  | 12 => [115, 62, 62, 61]
  | 13 => []
  | _ => []
set_option maxHeartbeats 2000000 in
theorem cmpSign_any0 (w : World) : Calls Tryz.prog 224 #[.int .i64 0] w fun e w' => e = .returned (stV (cmpS 0)) ∧ Kept (fun _ => False) w w' := by
  go_enter Tryz.func224, Tryz.ntmps224
  go_wp2_with fail
  go_ret
  exact ⟨rfl, (Kept.refl _ w).alloc _⟩
set_option maxHeartbeats 2000000 in
theorem cmpSign_any1 (w : World) : Calls Tryz.prog 224 #[.int .i64 1] w fun e w' => e = .returned (stV (cmpS 1)) ∧ Kept (fun _ => False) w w' := by
  go_enter Tryz.func224, Tryz.ntmps224
  go_wp2_with fail
  go_ret
  exact ⟨rfl, (Kept.refl _ w).alloc _⟩
set_option maxHeartbeats 2000000 in
theorem cmpSign_any2 (w : World) : Calls Tryz.prog 224 #[.int .i64 2] w fun e w' => e = .returned (stV (cmpS 2)) ∧ Kept (fun _ => False) w w' := by
  go_enter Tryz.func224, Tryz.ntmps224
  go_wp2_with fail
  go_ret
  exact ⟨rfl, (Kept.refl _ w).alloc _⟩
set_option maxHeartbeats 2000000 in
theorem cmpSign_any3 (w : World) : Calls Tryz.prog 224 #[.int .i64 3] w fun e w' => e = .returned (stV (cmpS 3)) ∧ Kept (fun _ => False) w w' := by
  go_enter Tryz.func224, Tryz.ntmps224
  go_wp2_with fail
  go_ret
  exact ⟨rfl, (Kept.refl _ w).alloc _⟩
set_option maxHeartbeats 2000000 in
theorem cmpSign_any4 (w : World) : Calls Tryz.prog 224 #[.int .i64 4] w fun e w' => e = .returned (stV (cmpS 4)) ∧ Kept (fun _ => False) w w' := by
  go_enter Tryz.func224, Tryz.ntmps224
  go_wp2_with fail
  go_ret
  exact ⟨rfl, (Kept.refl _ w).alloc _⟩
set_option maxHeartbeats 2000000 in
theorem cmpSign_any5 (w : World) : Calls Tryz.prog 224 #[.int .i64 5] w fun e w' => e = .returned (stV (cmpS 5)) ∧ Kept (fun _ => False) w w' := by
  go_enter Tryz.func224, Tryz.ntmps224
  go_wp2_with fail
  go_ret
  exact ⟨rfl, (Kept.refl _ w).alloc _⟩
set_option maxHeartbeats 2000000 in
theorem cmpSign_any6 (w : World) : Calls Tryz.prog 224 #[.int .i64 6] w fun e w' => e = .returned (stV (cmpS 6)) ∧ Kept (fun _ => False) w w' := by
  go_enter Tryz.func224, Tryz.ntmps224
  go_wp2_with fail
  go_ret
  exact ⟨rfl, (Kept.refl _ w).alloc _⟩
set_option maxHeartbeats 2000000 in
theorem cmpSign_any7 (w : World) : Calls Tryz.prog 224 #[.int .i64 7] w fun e w' => e = .returned (stV (cmpS 7)) ∧ Kept (fun _ => False) w w' := by
  go_enter Tryz.func224, Tryz.ntmps224
  go_wp2_with fail
  go_ret
  exact ⟨rfl, (Kept.refl _ w).alloc _⟩
set_option maxHeartbeats 2000000 in
theorem cmpSign_any8 (w : World) : Calls Tryz.prog 224 #[.int .i64 8] w fun e w' => e = .returned (stV (cmpS 8)) ∧ Kept (fun _ => False) w w' := by
  go_enter Tryz.func224, Tryz.ntmps224
  go_wp2_with fail
  go_ret
  exact ⟨rfl, (Kept.refl _ w).alloc _⟩
set_option maxHeartbeats 2000000 in
theorem cmpSign_any9 (w : World) : Calls Tryz.prog 224 #[.int .i64 9] w fun e w' => e = .returned (stV (cmpS 9)) ∧ Kept (fun _ => False) w w' := by
  go_enter Tryz.func224, Tryz.ntmps224
  go_wp2_with fail
  go_ret
  exact ⟨rfl, (Kept.refl _ w).alloc _⟩
set_option maxHeartbeats 2000000 in
theorem cmpSign_any10 (w : World) : Calls Tryz.prog 224 #[.int .i64 10] w fun e w' => e = .returned (stV (cmpS 10)) ∧ Kept (fun _ => False) w w' := by
  go_enter Tryz.func224, Tryz.ntmps224
  go_wp2_with fail
  go_ret
  exact ⟨rfl, (Kept.refl _ w).alloc _⟩
set_option maxHeartbeats 2000000 in
theorem cmpSign_any11 (w : World) : Calls Tryz.prog 224 #[.int .i64 11] w fun e w' => e = .returned (stV (cmpS 11)) ∧ Kept (fun _ => False) w w' := by
  go_enter Tryz.func224, Tryz.ntmps224
  go_wp2_with fail
  go_ret
  exact ⟨rfl, (Kept.refl _ w).alloc _⟩
set_option maxHeartbeats 2000000 in
theorem cmpSign_any12 (w : World) : Calls Tryz.prog 224 #[.int .i64 12] w fun e w' => e = .returned (stV (cmpS 12)) ∧ Kept (fun _ => False) w w' := by
  go_enter Tryz.func224, Tryz.ntmps224
  go_wp2_with fail
  go_ret
  exact ⟨rfl, (Kept.refl _ w).alloc _⟩
set_option maxHeartbeats 2000000 in
theorem cmpSign_any13 (w : World) : Calls Tryz.prog 224 #[.int .i64 13] w fun e w' => e = .returned (stV (cmpS 13)) ∧ Kept (fun _ => False) w w' := by
  go_enter Tryz.func224, Tryz.ntmps224
  go_wp2_with fail
  go_ret
  exact ⟨rfl, (Kept.refl _ w).alloc _⟩
theorem cmpSign_any (k : Nat) (h : k ≤ 13) (w : World) : Calls Tryz.prog 224 #[.int .i64 k] w fun e w' => e = .returned (stV (cmpS k)) ∧ Kept (fun _ => False) w w' := by
  rcases (by omega : k = 0 ∨ k = 1 ∨ k = 2 ∨ k = 3 ∨ k = 4 ∨ k = 5 ∨ k = 6 ∨ k = 7 ∨ k = 8 ∨ k = 9 ∨ k = 10 ∨ k = 11 ∨ k = 12 ∨ k = 13) with rfl | rfl | rfl | rfl | rfl | rfl | rfl | rfl | rfl | rfl | rfl | rfl | rfl | rfl
  · exact cmpSign_any0 w
  · exact cmpSign_any1 w
  · exact cmpSign_any2 w
  · exact cmpSign_any3 w
  · exact cmpSign_any4 w
  · exact cmpSign_any5 w
  · exact cmpSign_any6 w
  · exact cmpSign_any7 w
  · exact cmpSign_any8 w
  · exact cmpSign_any9 w
  · exact cmpSign_any10 w
  · exact cmpSign_any11 w
  · exact cmpSign_any12 w
  · exact cmpSign_any13 w
set_option maxHeartbeats 2000000 in
theorem aluSign_any0 (w : World) : Calls Tryz.prog 227 #[.int .i64 0] w fun e w' => e = .returned (stV (aluS 0)) ∧ Kept (fun _ => False) w w' := by
  go_enter Tryz.func227, Tryz.ntmps227
  go_wp2_with fail
  go_ret
  exact ⟨rfl, (Kept.refl _ w).alloc _⟩
set_option maxHeartbeats 2000000 in
theorem aluSign_any1 (w : World) : Calls Tryz.prog 227 #[.int .i64 1] w fun e w' => e = .returned (stV (aluS 1)) ∧ Kept (fun _ => False) w w' := by
  go_enter Tryz.func227, Tryz.ntmps227
  go_wp2_with fail
  go_ret
  exact ⟨rfl, (Kept.refl _ w).alloc _⟩
set_option maxHeartbeats 2000000 in
theorem aluSign_any2 (w : World) : Calls Tryz.prog 227 #[.int .i64 2] w fun e w' => e = .returned (stV (aluS 2)) ∧ Kept (fun _ => False) w w' := by
  go_enter Tryz.func227, Tryz.ntmps227
  go_wp2_with fail
  go_ret
  exact ⟨rfl, (Kept.refl _ w).alloc _⟩
set_option maxHeartbeats 2000000 in
theorem aluSign_any3 (w : World) : Calls Tryz.prog 227 #[.int .i64 3] w fun e w' => e = .returned (stV (aluS 3)) ∧ Kept (fun _ => False) w w' := by
  go_enter Tryz.func227, Tryz.ntmps227
  go_wp2_with fail
  go_ret
  exact ⟨rfl, (Kept.refl _ w).alloc _⟩
set_option maxHeartbeats 2000000 in
theorem aluSign_any4 (w : World) : Calls Tryz.prog 227 #[.int .i64 4] w fun e w' => e = .returned (stV (aluS 4)) ∧ Kept (fun _ => False) w w' := by
  go_enter Tryz.func227, Tryz.ntmps227
  go_wp2_with fail
  go_ret
  exact ⟨rfl, (Kept.refl _ w).alloc _⟩
set_option maxHeartbeats 2000000 in
theorem aluSign_any5 (w : World) : Calls Tryz.prog 227 #[.int .i64 5] w fun e w' => e = .returned (stV (aluS 5)) ∧ Kept (fun _ => False) w w' := by
  go_enter Tryz.func227, Tryz.ntmps227
  go_wp2_with fail
  go_ret
  exact ⟨rfl, (Kept.refl _ w).alloc _⟩
set_option maxHeartbeats 2000000 in
theorem aluSign_any6 (w : World) : Calls Tryz.prog 227 #[.int .i64 6] w fun e w' => e = .returned (stV (aluS 6)) ∧ Kept (fun _ => False) w w' := by
  go_enter Tryz.func227, Tryz.ntmps227
  go_wp2_with fail
  go_ret
  exact ⟨rfl, (Kept.refl _ w).alloc _⟩
set_option maxHeartbeats 2000000 in
theorem aluSign_any7 (w : World) : Calls Tryz.prog 227 #[.int .i64 7] w fun e w' => e = .returned (stV (aluS 7)) ∧ Kept (fun _ => False) w w' := by
  go_enter Tryz.func227, Tryz.ntmps227
  go_wp2_with fail
  go_ret
  exact ⟨rfl, (Kept.refl _ w).alloc _⟩
set_option maxHeartbeats 2000000 in
theorem aluSign_any8 (w : World) : Calls Tryz.prog 227 #[.int .i64 8] w fun e w' => e = .returned (stV (aluS 8)) ∧ Kept (fun _ => False) w w' := by
  go_enter Tryz.func227, Tryz.ntmps227
  go_wp2_with fail
  go_ret
  exact ⟨rfl, (Kept.refl _ w).alloc _⟩
set_option maxHeartbeats 2000000 in
theorem aluSign_any9 (w : World) : Calls Tryz.prog 227 #[.int .i64 9] w fun e w' => e = .returned (stV (aluS 9)) ∧ Kept (fun _ => False) w w' := by
  go_enter Tryz.func227, Tryz.ntmps227
  go_wp2_with fail
  go_ret
  exact ⟨rfl, (Kept.refl _ w).alloc _⟩
set_option maxHeartbeats 2000000 in
theorem aluSign_any10 (w : World) : Calls Tryz.prog 227 #[.int .i64 10] w fun e w' => e = .returned (stV (aluS 10)) ∧ Kept (fun _ => False) w w' := by
  go_enter Tryz.func227, Tryz.ntmps227
  go_wp2_with fail
  go_ret
  exact ⟨rfl, (Kept.refl _ w).alloc _⟩
set_option maxHeartbeats 2000000 in
theorem aluSign_any11 (w : World) : Calls Tryz.prog 227 #[.int .i64 11] w fun e w' => e = .returned (stV (aluS 11)) ∧ Kept (fun _ => False) w w' := by
  go_enter Tryz.func227, Tryz.ntmps227
  go_wp2_with fail
  go_ret
  exact ⟨rfl, (Kept.refl _ w).alloc _⟩
set_option maxHeartbeats 2000000 in
theorem aluSign_any12 (w : World) : Calls Tryz.prog 227 #[.int .i64 12] w fun e w' => e = .returned (stV (aluS 12)) ∧ Kept (fun _ => False) w w' := by
  go_enter Tryz.func227, Tryz.ntmps227
  go_wp2_with fail
  go_ret
  exact ⟨rfl, (Kept.refl _ w).alloc _⟩
set_option maxHeartbeats 2000000 in
theorem aluSign_any13 (w : World) : Calls Tryz.prog 227 #[.int .i64 13] w fun e w' => e = .returned (stV (aluS 13)) ∧ Kept (fun _ => False) w w' := by
  go_enter Tryz.func227, Tryz.ntmps227
  go_wp2_with fail
  go_ret
  exact ⟨rfl, (Kept.refl _ w).alloc _⟩
theorem aluSign_any (k : Nat) (h : k ≤ 13) (w : World) : Calls Tryz.prog 227 #[.int .i64 k] w fun e w' => e = .returned (stV (aluS k)) ∧ Kept (fun _ => False) w w' := by
  rcases (by omega : k = 0 ∨ k = 1 ∨ k = 2 ∨ k = 3 ∨ k = 4 ∨ k = 5 ∨ k = 6 ∨ k = 7 ∨ k = 8 ∨ k = 9 ∨ k = 10 ∨ k = 11 ∨ k = 12 ∨ k = 13) with rfl | rfl | rfl | rfl | rfl | rfl | rfl | rfl | rfl | rfl | rfl | rfl | rfl | rfl
  · exact aluSign_any0 w
  · exact aluSign_any1 w
  · exact aluSign_any2 w
  · exact aluSign_any3 w
  · exact aluSign_any4 w
  · exact aluSign_any5 w
  · exact aluSign_any6 w
  · exact aluSign_any7 w
  · exact aluSign_any8 w
  · exact aluSign_any9 w
  · exact aluSign_any10 w
  · exact aluSign_any11 w
  · exact aluSign_any12 w
  · exact aluSign_any13 w

end Go.Proofs.YtdchmelgaljpfaaGreat

