import Derived.Test.YtlkgmcacbfoijaaQa
import Derived.Deep.LoopGhost
set_option linter.unusedSimpArgs false
set_option linter.unusedVariables false
namespace Go.Proofs.Ytlkgmcacbfoijaa
open Go.RowKit

/-! ### a line without what counts for nothing -/
def semB (b : UInt8) : Bool := ((b.toNat : Int) == 59)
def blB (b : UInt8) : Bool := ((b.toNat : Int) == 32) || ((b.toNat : Int) == 9)
def cutS : List UInt8 → List UInt8
  | [] => []
  | b :: r => if semB b = true then [] else b :: cutS r
def leadS : List UInt8 → List UInt8
  | [] => []
  | b :: r => if blB b = true then leadS r else b :: r
def tailS (l : List UInt8) : List UInt8 := (leadS l.reverse).reverse
def trimS (l : List UInt8) : List UInt8 := tailS (leadS (cutS l))
theorem cutS_none {l : List UInt8} (h : ∀ b ∈ l, semB b = false) : cutS l = l := by
  induction l with
  | nil => rfl
  | cons b r ih =>
    unfold cutS
    rw [if_neg (by rw [h b (by simp)]; decide), ih fun c hc => h c (by simp [hc])]
theorem cutS_at {l : List UInt8} {i : Nat} {b : UInt8} (h : ∀ c ∈ l.take i, semB c = false) (hb : l[i]? = some b) (hs : semB b = true) : cutS l = l.take i := by
  induction l generalizing i with
  | nil => simp at hb
  | cons c r ih =>
    cases i with
    | zero =>
      simp at hb
      subst hb
      show (if semB c = true then [] else c :: cutS r) = []
      rw [if_pos hs]
    | succ i =>
      show (if semB c = true then [] else c :: cutS r) = _
      rw [if_neg (by rw [h c (by simp)]; decide), List.take_succ_cons, ih (i := i) (fun d hd => h d (by simp [hd])) (by simpa using hb)]
theorem leadS_len (l : List UInt8) : (leadS l).length ≤ l.length := by
  induction l with
  | nil => exact Nat.le_refl _
  | cons b r ih =>
    show (if blB b = true then leadS r else b :: r).length ≤ _
    split
    · simp; omega
    · simp
theorem tailS_nil : tailS [] = [] := rfl
theorem tailS_snoc (l : List UInt8) (b : UInt8) : tailS (l ++ [b]) = if blB b = true then tailS l else l ++ [b] := by
  unfold tailS
  rw [List.reverse_append]
  show (if blB b = true then leadS l.reverse else b :: l.reverse).reverse = _
  split <;> simp
set_option maxHeartbeats 8000000 in
set_option maxRecDepth 100000 in
theorem trimmed_any (l : List UInt8) (w : World) (hl : l.length ≤ 1000000) : Calls Try.prog 46 #[stV l] w fun e w' => e = .returned (stV (trimS l)) ∧ w = w' := by
  have hsz := ba_size l
  go_enter Try.func46, Try.ntmps46
  go_wp2_with fail
  go_loopw [0, 3] (fun sv iv wr => ∃ i : Nat, sv = stV l ∧ iv = .int .i64 i ∧ i ≤ l.length ∧ (∀ b ∈ l.take i, semB b = false) ∧ w = wr) (fun _ iv _ => l.length - (intOf iv).toNat)
  case atStart => exact ⟨0, rfl, rfl, by omega, by simp, rfl⟩
  case round =>
    obtain ⟨i, rfl, rfl, hi, hno, rfl⟩ := hrel
    have HNO := Lib.hid hno
    clear hno
    by_cases hlt : i < l.length
    case' pos =>
      have hid : decide ((i : Int) < l.length) = true := decide_eq_true (by omega)
      obtain ⟨b, hb⟩ : ∃ b, l[i]? = some b := ⟨_, List.getElem?_eq_getElem hlt⟩
      have hix := st_index hb
      have HB := Lib.hid hb
      clear hb
      cases hs : ((b.toNat : Int) == 59)
      case false =>
        have HS := Lib.hid hs
        go_wp2_with fail
        go_roundw
        case rel => exact ⟨i + 1, rfl, by go_num, by omega, fun c hc => by
          rw [List.take_add_one, HB.out] at hc
          rcases List.mem_append.1 hc with hc | hc
          · exact HNO.out c hc
          · simp at hc
            rw [hc]
            exact HS.out, by first | trivial | rfl⟩
        case measure => (simp [intOf]; try omega)
      case' true =>
        have hcut := st_pre (l := l) (n := i) (by omega)
        have HM : Hid (cutS l = l.take i) := Lib.hid (cutS_at HNO.out HB.out hs)
        have hml : (l.take i).length ≤ 1000000 := by rw [List.length_take]; omega
        go_wp2_with fail
        clear hcut hix HB HNO hs hid
        generalize l.take i = m at *
        have hm : l = l := rfl
    case' neg =>
      obtain rfl : i = l.length := by omega
      have hid : decide ((l.length : Int) < l.length) = false := decide_eq_false (by omega)
      have HM0 : Hid (cutS l = l) := Lib.hid (cutS_none (by have := HNO.out; rwa [List.take_length] at this))
      go_wp2_with fail
      clear HNO hid
      obtain ⟨m, hm⟩ : ∃ m, m = l := ⟨l, rfl⟩
      have hml : m.length ≤ 1000000 := by rw [hm]; exact hl
      have HM : Hid (cutS l = m) := Lib.hid (by rw [hm]; exact HM0.out)
      clear HM0
    all_goals
      go_loopg [0] m.length (fun k sv wr => ∃ s : List UInt8, sv = stV s ∧ s.length = k ∧ leadS s = leadS m ∧ s.length ≤ 1000000 ∧ w = wr)
      case atStart => exact ⟨m, by first | rfl | rw [hm], rfl, rfl, hml, rfl⟩
      case round =>
        clear hm
        obtain ⟨s, rfl, hk, hld, hsl, rfl⟩ := hrel
        have HK := Lib.hid hk
        have HLD := Lib.hid hld
        clear hk hld
        rcases s with _ | ⟨b, r⟩
        case' nil =>
          have HT : Hid (leadS m = []) := Lib.hid HLD.out.symm
          have hsz2 : (ByteArray.mk #[]).size = 0 := rfl
          go_wp2_with fail
          generalize ([] : List UInt8) = s at HT hsl ⊢
        case' cons =>
          have hix0 : ∀ W, (Instr.index 9 (.string ⟨(b :: r).toArray⟩) (.int .i64 0)).run Try.prog W = .ok (.int .u8 b.toNat) W := fun W => st_index (i := 0) rfl W
          have hct : ∀ W, (Instr.sliceAt 9 (.string ⟨(b :: r).toArray⟩) (some (.int .i64 1)) none none).run Try.prog W = .ok (stV r) W := fun W => st_post (n := 1) (by simp) W
          have hsz2 := ba_size (b :: r)
          have hrl : (b :: r).length = r.length + 1 := rfl
          have HBL : Hid (leadS (b :: r) = if blB b = true then leadS r else b :: r) := Lib.hid rfl
          have HB : Hid (blB b = (((b.toNat : Int) == 32) || ((b.toNat : Int) == 9))) := Lib.hid rfl
          generalize b :: r = s at *
          have hpos : decide (0 < (s.length : Int)) = true := decide_eq_true (by omega)
          rcases (show ((b.toNat : Int) == 32) = true ∨ ((b.toNat : Int) == 32) = false ∧ ((b.toNat : Int) == 9) = true ∨ ((b.toNat : Int) == 32) = false ∧ ((b.toNat : Int) == 9) = false by
            cases ((b.toNat : Int) == 32) <;> cases ((b.toNat : Int) == 9) <;> simp) with q | ⟨q, q9⟩ | ⟨q, q9⟩
          case inl =>
            have HN : Hid (leadS r = leadS m) := Lib.hid (by rw [← HLD.out, HBL.out, HB.out, q]; rfl)
            go_wp2_with fail
            go_roundg r.length
            case measure => have := HK.out; omega
            case rel => exact ⟨r, rfl, rfl, HN.out, by omega, by first | trivial | rfl⟩
          case inr.inl =>
            have HN : Hid (leadS r = leadS m) := Lib.hid (by rw [← HLD.out, HBL.out, HB.out, q, q9]; rfl)
            go_wp2_with fail
            go_roundg r.length
            case measure => have := HK.out; omega
            case rel => exact ⟨r, rfl, rfl, HN.out, by omega, by first | trivial | rfl⟩
          have HT : Hid (leadS m = s) := Lib.hid (by rw [← HLD.out, HBL.out, HB.out, q, q9]; rfl)
          go_wp2_with fail
        all_goals
          go_loopg [0] s.length (fun k sv wr => ∃ u : List UInt8, sv = stV u ∧ u.length = k ∧ tailS u = tailS s ∧ u.length ≤ 1000000 ∧ w = wr)
          case atStart => exact ⟨s, rfl, rfl, rfl, hsl, rfl⟩
          case round =>
            obtain ⟨u, rfl, hk, hld, hul, rfl⟩ := hrel
            have HTS : Hid (trimS l = tailS u) := Lib.hid (by
              unfold trimS
              rw [HM.out, HT.out, ← hld])
            have HK3 := Lib.hid hk
            have HLD3 := Lib.hid hld
            clear hk hld
            rcases List.eq_nil_or_concat u with rfl | ⟨v, b, rfl⟩
            · have hsz3 : (ByteArray.mk #[]).size = 0 := rfl
              go_wp2_with fail
              go_ret
              exact ⟨by rw [HTS.out]; rfl, rfl⟩
            · rw [List.concat_eq_append] at *
              have hix0 : ∀ W, (Instr.index 9 (.string ⟨(v ++ [b]).toArray⟩) (.int .i64 (v.length : Int))).run Try.prog W = .ok (.int .u8 b.toNat) W := fun W => st_index (by simp) W
              have hct : ∀ W, (Instr.sliceAt 9 (.string ⟨(v ++ [b]).toArray⟩) none (some (.int .i64 (v.length : Int))) none).run Try.prog W = .ok (stV v) W := fun W => by
                have := st_pre (l := v ++ [b]) (n := v.length) (by simp) W
                rwa [List.take_left] at this
              have hsz3 := ba_size (v ++ [b])
              have hvl : (v ++ [b]).length = v.length + 1 := by simp
              have HBL3 := Lib.hid (tailS_snoc v b)
              have HB3 : Hid (blB b = (((b.toNat : Int) == 32) || ((b.toNat : Int) == 9))) := Lib.hid rfl
              generalize v ++ [b] = u at *
              have hpos3 : decide (0 < (u.length : Int)) = true := decide_eq_true (by omega)
              rcases (show ((b.toNat : Int) == 32) = true ∨ ((b.toNat : Int) == 32) = false ∧ ((b.toNat : Int) == 9) = true ∨ ((b.toNat : Int) == 32) = false ∧ ((b.toNat : Int) == 9) = false by
                cases ((b.toNat : Int) == 32) <;> cases ((b.toNat : Int) == 9) <;> simp) with q | ⟨q, q9⟩ | ⟨q, q9⟩
              · have HN : Hid (tailS v = tailS s) := Lib.hid (by rw [← HLD3.out, HBL3.out, HB3.out, q]; rfl)
                go_wp2_with fail
                go_roundg v.length
                case measure => have := HK3.out; omega
                case rel => exact ⟨v, rfl, rfl, HN.out, by omega, by first | trivial | rfl⟩
              · have HN : Hid (tailS v = tailS s) := Lib.hid (by rw [← HLD3.out, HBL3.out, HB3.out, q, q9]; rfl)
                go_wp2_with fail
                go_roundg v.length
                case measure => have := HK3.out; omega
                case rel => exact ⟨v, rfl, rfl, HN.out, by omega, by first | trivial | rfl⟩
              · have HN : Hid (trimS l = u) := Lib.hid (by rw [HTS.out, HBL3.out, HB3.out, q, q9]; rfl)
                go_wp2_with fail
                go_ret
                exact ⟨by rw [HN.out]; rfl, rfl⟩

end Go.Proofs.Ytlkgmcacbfoijaa
