import Derived.Test.YtdchmelgaljpfaaGreatZag
import Derived.Laws.BytesArg
import Derived.Test.YtdchmelgaljpfaaGreatZad
set_option linter.unusedSimpArgs false
set_option linter.unusedVariables false
namespace Go.Proofs.YtdchmelgaljpfaaGreat
open Go.RowKit

/-! ### the document's Parse -/
def lfB (b : UInt8) : Bool := ((b.toNat : Int) == 10)
def linesG (cur : List UInt8) : List UInt8 → List (List UInt8)
  | [] => [cur]
  | b :: r => if lfB b = true then cur :: linesG [] r else linesG (cur ++ [b]) r
def prsF (acc : List In) (ln : Nat) : List (List UInt8) → List In × Nat × Nat
  | [] => (acc, 0, 0)
  | t :: r => if (trimS t == []) = true then prsF acc (ln + 1) r else match oneS (trimS t) with
    | none => ([], ln, 31)
    | some l => prsF (acc ++ l) (ln + 1) r
def parseS (s : List UInt8) : List In × Nat × Nat := if s.length > 65536 then ([], 0, 30) else prsF [] 1 (linesG [] s)
abbrev Len2 (R : Option (List In)) : Prop := ∀ l, R = some l → 1 ≤ l.length ∧ l.length ≤ 2
theorem len2_none : Len2 none := fun l h => by cases h
theorem len2_one (x : In) : Len2 (some [x]) := fun l h => by cases h; simp
theorem len2_map {α : Type} (o : Option α) (f : α → List In) (hf : ∀ a, 1 ≤ (f a).length ∧ (f a).length ≤ 2) : Len2 (o.map f) := fun l h => by
  cases o with
  | none => cases h
  | some a => cases h; exact hf a
theorem len2_ite {c : Prop} [Decidable c] {a b : Option (List In)} (ha : Len2 a) (hb : Len2 b) : Len2 (if c then a else b) := by
  split
  · exact ha
  · exact hb
theorem swS_len (s : List UInt8) (d : Int) : Len2 (swS s d) := by
  unfold swS
  repeat (first | exact len2_none | exact len2_one _ | refine len2_ite (len2_one _) ?_)
theorem specialS_len (a b c : List UInt8) (d : Int) : Len2 (specialS a b c d) := by
  unfold specialS
  refine len2_ite (len2_map _ _ fun a => by simp) (len2_ite (len2_map _ _ fun a => by simp) (len2_ite (len2_map _ _ fun a => by simp) (len2_ite len2_none (swS_len _ _))))
theorem orR_len (op a o : Int) (r : Option Nat) (v : Option Int) : Len2 (orR op a o r v) := by
  unfold orR
  split
  · exact len2_one _
  · exact len2_one _
  · exact len2_none
theorem cmpC_len (c l : Int) (a b : List UInt8) (o : Int) (i : Nat) : Len2 (cmpC c l a b o i) := by
  unfold cmpC cmpQ
  split
  · exact len2_none
  · exact orR_len _ _ _ _ _
theorem compareS_len (a b c d : List UInt8) : Len2 (compareS a b c d) := by
  unfold compareS cmpO
  split
  · exact len2_none
  · unfold cmpF
    split
    · exact len2_none
    · unfold cmpAt
      exact len2_ite (cmpC_len _ _ _ _ _ _) (len2_ite (cmpC_len _ _ _ _ _ _) (cmpC_len _ _ _ _ _ _))
theorem asgF_len (c l d : Int) (s : List UInt8) (i : Option Nat) : Len2 (asgF c l d s i) := by
  unfold asgF
  split
  · exact len2_none
  · exact orR_len _ _ _ _ _
theorem asgX_len (c l : Int) (wd : Bool) (d : Int) (a b e : List UInt8) (r : List (List UInt8)) : Len2 (asgX c l wd d a b e r) := by
  unfold asgX
  split
  · unfold asg3
    exact len2_ite (len2_ite (len2_one _) (asgF_len _ _ _ _ _)) (asgF_len _ _ _ _ _)
  · unfold asg4
    exact len2_ite (len2_ite (specialS_len _ _ _ _) len2_none) len2_none
  · unfold asg5
    refine len2_ite (len2_ite ?_ len2_none) len2_none
    unfold plA
    split
    · exact len2_none
    · exact len2_one _
  · exact len2_none
theorem assignS_len (ws : List (List UInt8)) : Len2 (assignS ws) := by
  unfold assignS
  split
  · refine len2_ite len2_none ?_
    unfold asgD
    split
    · exact len2_none
    · exact len2_ite (asgX_len _ _ _ _ _ _ _ _) (len2_ite (asgX_len _ _ _ _ _ _ _ _) len2_none)
  · exact len2_none
theorem oneS_len (s : List UInt8) : Len2 (oneS s) := by
  unfold oneS
  refine len2_ite (len2_one _) ?_
  unfold oneW
  split
  · refine len2_ite ?_ (len2_ite ?_ (assignS_len _))
    · unfold gotoO
      split
      · exact len2_none
      · exact len2_one _
    · unfold callO
      split
      · exact len2_one _
      · exact len2_one _
      · exact len2_none
  · refine len2_ite ?_ (assignS_len _)
    unfold stO
    split
    · exact len2_none
    · exact len2_one _
    · exact len2_one _
    · exact len2_none
  · exact len2_ite (len2_ite (compareS_len _ _ _ _) (assignS_len _)) (assignS_len _)
  · exact assignS_len _
theorem cutS_len (l : List UInt8) : (cutS l).length ≤ l.length := by
  induction l with
  | nil => exact Nat.le_refl _
  | cons b r ih =>
    show (if semB b = true then [] else b :: cutS r).length ≤ _
    split
    · simp
    · simp; omega
theorem trimS_len (l : List UInt8) : (trimS l).length ≤ l.length := by
  unfold trimS tailS
  have h1 := leadS_len (leadS (cutS l)).reverse
  have h2 := leadS_len (cutS l)
  have h3 := cutS_len l
  simp only [List.length_reverse] at h1 ⊢
  omega
/-- the lines that are left at the place i, from f on -/
def leftL (s : List UInt8) (f i : Nat) : List (List UInt8) := if i ≤ s.length then linesG ((s.take i).drop f) (s.drop i) else []
theorem leftL_go {s : List UInt8} {f i : Nat} {b : UInt8} (hb : s[i]? = some b) (hf : f ≤ i) (h : lfB b = false) : leftL s f i = leftL s f (i + 1) := by
  have hi := (List.getElem?_eq_some_iff.1 hb).1
  unfold leftL
  rw [if_pos (by omega), if_pos (by omega), drop_cons hb, cut_more hb hf]
  show (if lfB b = true then _ else linesG ((s.take i).drop f ++ [b]) (s.drop (i + 1))) = _
  rw [if_neg (by rw [h]; decide)]
theorem leftL_cut {s : List UInt8} {f i : Nat} {b : UInt8} (hb : s[i]? = some b) (h : lfB b = true) : leftL s f i = (s.take i).drop f :: leftL s (i + 1) (i + 1) := by
  have hi := (List.getElem?_eq_some_iff.1 hb).1
  unfold leftL
  rw [if_pos (by omega), if_pos (by omega), drop_cons hb]
  show (if lfB b = true then (s.take i).drop f :: linesG [] (s.drop (i + 1)) else _) = _
  rw [if_pos h, show (s.take (i + 1)).drop (i + 1) = [] from List.drop_eq_nil_of_le (by rw [List.length_take]; omega)]
theorem leftL_end {s : List UInt8} {f : Nat} : leftL s f s.length = (s.take s.length).drop f :: leftL s (s.length + 1) (s.length + 1) := by
  unfold leftL
  rw [if_pos (Nat.le_refl _), if_neg (by omega), List.drop_length]
  rfl
theorem prsF_skip {acc : List In} {ln : Nat} {t : List UInt8} {r : List (List UInt8)} (h : (trimS t == []) = true) : prsF acc ln (t :: r) = prsF acc (ln + 1) r := by
  show (if (trimS t == []) = true then prsF acc (ln + 1) r else _) = _
  rw [if_pos h]
theorem prsF_bad {acc : List In} {ln : Nat} {t : List UInt8} {r : List (List UInt8)} (h : (trimS t == []) = false) (h1 : oneS (trimS t) = none) : prsF acc ln (t :: r) = ([], ln, 31) := by
  show (if (trimS t == []) = true then prsF acc (ln + 1) r else match oneS (trimS t) with
    | none => ([], ln, 31)
    | some l => prsF (acc ++ l) (ln + 1) r) = _
  rw [if_neg (by rw [h]; decide), h1]
theorem prsF_ok {acc : List In} {ln : Nat} {t : List UInt8} {r : List (List UInt8)} {l : List In} (h : (trimS t == []) = false) (h1 : oneS (trimS t) = some l) : prsF acc ln (t :: r) = prsF (acc ++ l) (ln + 1) r := by
  show (if (trimS t == []) = true then prsF acc (ln + 1) r else match oneS (trimS t) with
    | none => ([], ln, 31)
    | some l => prsF (acc ++ l) (ln + 1) r) = _
  rw [if_neg (by rw [h]; decide), h1]
set_option maxHeartbeats 8000000 in
set_option maxRecDepth 100000 in
theorem parse_any (s : List UInt8) (w : World) (hl : s.length ≤ 1000000) : Calls Tryz.prog 106 #[stV s] w fun e w' =>
    (∃ v, e = .returned (.tuple #[v, .int .i64 ((parseS s).2.1 : Nat), .int .i64 ((parseS s).2.2 : Nat)]) ∧ InS w' v (parseS s).1 ∧ ∀ k, v.ownBlock = some k → w.heap.size ≤ k) ∧ Kept (fun _ => False) w w' := by
  have hsz := ba_size s
  obtain ⟨R, hR⟩ : ∃ R, parseS s = R := ⟨_, rfl⟩
  rw [hR]
  unfold parseS at hR
  by_cases hbig : s.length > 65536
  · rw [if_pos hbig] at hR
    subst hR
    have hd : decide ((s.length : Int) > 65536) = true := decide_eq_true (by omega)
    have hd' : decide ((65536 : Int) < s.length) = true := decide_eq_true (by omega)
    go_enter Tryz.func106, Tryz.ntmps106
    go_wp2_with fail
    refine bodyPost_ret (v := .tuple #[.slice none 0 0, .int .i64 0, .int .i64 30]) (by simp [results, Tryz.results106, go_sem]) rfl ?_
    exact ⟨⟨_, rfl, Sl.nil _ _ _, fun k hk => own_none hk⟩, Kept.refl _ w⟩
  rw [if_neg hbig] at hR
  have hd : decide ((s.length : Int) > 65536) = false := decide_eq_false (by omega)
  have hd' : decide ((65536 : Int) < s.length) = false := decide_eq_false (by omega)
  have hls : s.length ≤ 65536 := by omega
  have HR : Hid (prsF [] 1 (leftL s 0 0) = R) := Lib.hid hR
  clear hR
  obtain ⟨i0, hI0, hI1, hI2, hI3⟩ := info_parts infoIn
  go_enter Tryz.func106, Tryz.ntmps106
  go_wp2_with fail
  go_loopw [5, 6, 7, 8] (fun ov fv lv iv wr => ∃ (i f ln : Nat) (acc : List In) (ov' : Value), iv = .int .i64 i ∧ fv = .int .i64 f ∧ lv = .int .i64 ln ∧ ov' = ov ∧ i ≤ s.length + 1 ∧ f ≤ i ∧ ln ≤ i + 1 ∧ acc.length ≤ 2 * i ∧ prsF acc ln (leftL s f i) = R ∧ InS wr ov' acc ∧ (∀ g, ov'.ownBlock = some g → w.heap.size ≤ g) ∧ Kept (fun _ => False) w wr) (fun _ _ _ iv _ => s.length + 1 - (intOf iv).toNat)
  case atStart => exact ⟨0, 0, 1, [], _, rfl, rfl, rfl, rfl, by omega, by omega, by omega, by simp, HR.out, Sl.nil _ _ _, fun g hg => by simp [Value.ownBlock] at hg, Kept.refl _ _⟩
  case round =>
    obtain ⟨i, f, ln, acc, ov, rfl, rfl, rfl, rfl, hi, hf, hln, hac, h1, hO, hown, hK⟩ := hrel
    clear HR hd hd' hbig
    have H1 := Lib.hid h1
    have HO := Lib.hid hO
    have HK := Lib.hid hK
    have HOW := Lib.hid hown
    clear h1 hO hK hown
    by_cases hend : i = s.length + 1
    case pos =>
      subst hend
      have hid : decide ((((s.length + 1 : Nat)) : Int) ≤ s.length) = false := decide_eq_false (by omega)
      have hR : prsF acc ln [] = R := by
        have := H1.out
        unfold leftL at this
        rwa [if_neg (by omega)] at this
      have hR : (acc, 0, 0) = R := hR
      subst hR
      clear H1
      go_wp2_with fail
      refine bodyPost_ret (v := .tuple #[ov, .int .i64 0, .int .i64 0]) (by simp [results, Tryz.results106, go_sem]) rfl ?_
      exact ⟨⟨_, rfl, HO.out, HOW.out⟩, HK.out⟩
    case neg =>
    have hile : i ≤ s.length := by omega
    have hid : decide ((i : Int) ≤ s.length) = true := decide_eq_true (by omega)
    clear hend
    by_cases hlt : i < s.length
    case pos =>
      obtain ⟨b, hb⟩ : ∃ b, s[i]? = some b := ⟨_, List.getElem?_eq_getElem hlt⟩
      have hix := st_index hb
      have hdl : decide ((i : Int) < s.length) = true := decide_eq_true (by omega)
      cases hs : ((b.toNat : Int) == 10)
      case false =>
        have hsn : ((b.toNat : Int) != 10) = true := by simp only [bne, hs]; rfl
        have HN : Hid (prsF acc ln (leftL s f (i + 1)) = R) := Lib.hid (by rw [← leftL_go hb hf hs]; exact H1.out)
        clear hb H1
        go_wp2_with fail
        go_roundw
        case rel => exact ⟨i + 1, f, ln, acc, ov, by simp, rfl, rfl, rfl, by omega, by omega, by omega, by omega, HN.out, HO.out, HOW.out, HK.out⟩
        case measure => (simp [intOf]; try omega)
      case true =>
        have hsn : ((b.toNat : Int) != 10) = false := by simp only [bne, hs]; rfl
        obtain ⟨ct, hct⟩ : ∃ ct, (s.take i).drop f = ct := ⟨_, rfl⟩
        have hleft : leftL s f i = (s.take i).drop f :: leftL s (i + 1) (i + 1) := leftL_cut hb hs
        clear hb
        have hcut := fun W => st_cut (l := s) (m := f) (n := i) hf (by omega) W
        have HT : Hid (∀ W, Calls Tryz.prog 142 #[stV ((s.take i).drop f)] W fun e w' => e = .returned (stV (trimS ((s.take i).drop f))) ∧ W = w') := Lib.hid (fun W => trimmed_any _ W (by simp only [List.length_drop, List.length_take]; omega))
        have htl : (trimS ((s.take i).drop f)).length ≤ 1000000 := Nat.le_trans (trimS_len _) (by simp only [List.length_drop, List.length_take]; omega)
        have HP := H1.out
        rw [hleft] at HP
        clear H1 hleft
        have HSK := fun h => Lib.hid ((prsF_skip h).symm.trans HP)
        have HBD := fun h h1 => Lib.hid ((prsF_bad h h1).symm.trans HP)
        have HOK := fun h (l : List In) h1 => Lib.hid ((prsF_ok h (l := l) h1).symm.trans HP)
        clear HP
        have H1L := fun W => line_any (trimS ((s.take i).drop f)) W htl
        have HLN := oneS_len (trimS ((s.take i).drop f))
        rw [hct] at hcut HT
        rw [hct] at HSK HBD HOK H1L HLN
        generalize hct2 : trimS ct = tt at *
        cases qe : (tt == [])
        case true =>
          have HN := HSK qe
          have hte : tt = [] := by simpa using qe
          subst hte
          clear HSK HBD HOK H1L HLN htl qe hct2
          go_wp2_with fail
          refine (HT.out _).mono ?_
          rintro e w1 ⟨rfl, rfl⟩
          go_wp2_with fail
          go_roundw
          case rel => exact ⟨i + 1, i + 1, ln + 1, acc, ov, by simp, by simp, by simp, rfl, by omega, by omega, by omega, by omega, HN.out, HO.out, HOW.out, HK.out⟩
          case measure => (simp [intOf]; try omega)
        case false =>
        have hqn : (!(tt == [])) = true := by rw [qe]; rfl
        have hem : tt.isEmpty = false := by cases tt with
          | nil => cases qe
          | cons => rfl
        have HBD := HBD qe
        have HOK := HOK qe
        clear HSK hct2
        generalize oneS tt = oo at *
        cases oo with
        | none =>
          have hR := (HBD rfl).out
          subst hR
          have H1L := Lib.hid H1L
          clear HBD HOK HLN
          go_wp2_with fail
          refine (HT.out _).mono ?_
          rintro e w1 ⟨rfl, rfl⟩
          go_wp2_with fail
          refine (H1L.out _).mono ?_
          rintro e w8 ⟨⟨v, rfl, hv, ho⟩, hk8⟩
          clear hv ho
          go_wp2_with fail
          refine bodyPost_ret (v := .tuple #[.slice none 0 0, .int .i64 ln, .int .i64 31]) (by simp [results, Tryz.results106, go_sem]) rfl ?_
          exact ⟨⟨_, rfl, Sl.nil _ _ _, fun k hk => own_none hk⟩, HK.out.trans hk8 (fun _ _ h => h)⟩
        | some l =>
          have HN := HOK l rfl
          have hl2 := HLN l rfl
          have H1L := Lib.hid H1L
          clear HBD HOK HLN
          go_wp2_with fail
          refine (HT.out _).mono ?_
          rintro e w1 ⟨rfl, rfl⟩
          go_wp2_with fail
          refine (H1L.out _).mono ?_
          rintro e w8 ⟨⟨v, rfl, hv, ho⟩, hk8⟩
          have hb := hv l rfl
          have hb2 := hb.ins
          have HKW := HK.out.trans hk8 (fun _ _ h => h)
          have HOB := Sl.kept hk8 HO.out (fun g hg h => h)
          have hsz8 := hk8.size
          have HH := Lib.hid (And.intro HKW (And.intro HOB hb2))
          clear hv ho hb hb2 HKW HOB
          go_wp2_with (at_builtin; refine wpList_appendS (w := w8) rfl (.tmp 46) (.tmp 47) 22 rfl Tryz.underlying22 hI0 hI1 hI2 hI3 rfl _ _ acc l rfl rfl HH.out.2.1 HH.out.2.2 (by omega) (by omega) ?_; intro v5 w5 hS5 hk5 hv5)
          go_roundw
          case rel => exact ⟨i + 1, i + 1, ln + 1, acc ++ l, v5, by simp, by simp, by simp, rfl, by omega, by omega, by omega, by rw [List.length_append]; omega, HN.out, hS5, fun g hg => by
            rcases hv5 g hg with h | h
            · exact HOW.out g h
            · exact Nat.le_trans (Nat.le_trans HK.out.size hsz8) h, HH.out.1.trans hk5 (fun k hk e => by have := HOW.out k e; omega)⟩
          case measure => (simp [intOf]; try omega)
    case neg =>
      obtain rfl : i = s.length := by omega
      have hdl : decide ((s.length : Int) < s.length) = false := decide_eq_false (by omega)
      obtain ⟨ct, hct⟩ : ∃ ct, (s.take s.length).drop f = ct := ⟨_, rfl⟩
      have hleft : leftL s f s.length = (s.take s.length).drop f :: leftL s (s.length + 1) (s.length + 1) := leftL_end
      have hcut := fun W => st_cut (l := s) (m := f) (n := s.length) hf (by omega) W
      have HT : Hid (∀ W, Calls Tryz.prog 142 #[stV ((s.take s.length).drop f)] W fun e w' => e = .returned (stV (trimS ((s.take s.length).drop f))) ∧ W = w') := Lib.hid (fun W => trimmed_any _ W (by simp only [List.length_drop, List.length_take]; omega))
      have htl : (trimS ((s.take s.length).drop f)).length ≤ 1000000 := Nat.le_trans (trimS_len _) (by simp only [List.length_drop, List.length_take]; omega)
      have HP := H1.out
      rw [hleft] at HP
      clear H1 hleft
      have HSK := fun h => Lib.hid ((prsF_skip h).symm.trans HP)
      have HBD := fun h h1 => Lib.hid ((prsF_bad h h1).symm.trans HP)
      have HOK := fun h (l : List In) h1 => Lib.hid ((prsF_ok h (l := l) h1).symm.trans HP)
      clear HP
      have H1L := fun W => line_any (trimS ((s.take s.length).drop f)) W htl
      have HLN := oneS_len (trimS ((s.take s.length).drop f))
      rw [hct] at hcut HT
      rw [hct] at HSK HBD HOK H1L HLN
      generalize hct2 : trimS ct = tt at *
      cases qe : (tt == [])
      case true =>
        have HN := HSK qe
        have hte : tt = [] := by simpa using qe
        subst hte
        clear HSK HBD HOK H1L HLN htl qe hct2
        go_wp2_with fail
        refine (HT.out _).mono ?_
        rintro e w1 ⟨rfl, rfl⟩
        go_wp2_with fail
        go_roundw
        case rel => exact ⟨s.length + 1, s.length + 1, ln + 1, acc, ov, by simp, by simp, by simp, rfl, by omega, by omega, by omega, by omega, HN.out, HO.out, HOW.out, HK.out⟩
        case measure => (simp [intOf]; try omega)
      case false =>
      have hqn : (!(tt == [])) = true := by rw [qe]; rfl
      have hem : tt.isEmpty = false := by cases tt with
        | nil => cases qe
        | cons => rfl
      have HBD := HBD qe
      have HOK := HOK qe
      clear HSK hct2
      generalize oneS tt = oo at *
      cases oo with
      | none =>
        have hR := (HBD rfl).out
        subst hR
        have H1L := Lib.hid H1L
        clear HBD HOK HLN
        go_wp2_with fail
        refine (HT.out _).mono ?_
        rintro e w1 ⟨rfl, rfl⟩
        go_wp2_with fail
        refine (H1L.out _).mono ?_
        rintro e w8 ⟨⟨v, rfl, hv, ho⟩, hk8⟩
        clear hv ho
        go_wp2_with fail
        refine bodyPost_ret (v := .tuple #[.slice none 0 0, .int .i64 ln, .int .i64 31]) (by simp [results, Tryz.results106, go_sem]) rfl ?_
        exact ⟨⟨_, rfl, Sl.nil _ _ _, fun k hk => own_none hk⟩, HK.out.trans hk8 (fun _ _ h => h)⟩
      | some l =>
        have HN := HOK l rfl
        have hl2 := HLN l rfl
        have H1L := Lib.hid H1L
        clear HBD HOK HLN
        go_wp2_with fail
        refine (HT.out _).mono ?_
        rintro e w1 ⟨rfl, rfl⟩
        go_wp2_with fail
        refine (H1L.out _).mono ?_
        rintro e w8 ⟨⟨v, rfl, hv, ho⟩, hk8⟩
        have hb := hv l rfl
        have hb2 := hb.ins
        have HKW := HK.out.trans hk8 (fun _ _ h => h)
        have HOB := Sl.kept hk8 HO.out (fun g hg h => h)
        have hsz8 := hk8.size
        have HH := Lib.hid (And.intro HKW (And.intro HOB hb2))
        clear hv ho hb hb2 HKW HOB
        go_wp2_with (at_builtin; refine wpList_appendS (w := w8) rfl (.tmp 46) (.tmp 47) 22 rfl Tryz.underlying22 hI0 hI1 hI2 hI3 rfl _ _ acc l rfl rfl HH.out.2.1 HH.out.2.2 (by omega) (by omega) ?_; intro v5 w5 hS5 hk5 hv5)
        go_roundw
        case rel => exact ⟨s.length + 1, s.length + 1, ln + 1, acc ++ l, v5, by simp, by simp, by simp, rfl, by omega, by omega, by omega, by rw [List.length_append]; omega, HN.out, hS5, fun g hg => by
          rcases hv5 g hg with h | h
          · exact HOW.out g h
          · exact Nat.le_trans (Nat.le_trans HK.out.size hsz8) h, HH.out.1.trans hk5 (fun k hk e => by have := HOW.out k e; omega)⟩
        case measure => (simp [intOf]; try omega)

end Go.Proofs.YtdchmelgaljpfaaGreat

set_option linter.unusedSimpArgs false
set_option linter.unusedVariables false
namespace Go.Proofs.YtdchmelgaljpfaaGreat
open Go.RowKit

/-! ### a text whose lines are parted by ';' -/
def fixB (b : UInt8) : UInt8 := if ((b.toNat : Int) == 59) = true then 10 else b
def byCell (b : UInt8) : List Value := [.int .u8 b.toNat]
theorem infoByte : (Tryz.prog.info? 5).map (fun i => (i.zero, i.size, i.bytes)) = some (some (.int .u8 0), 1, 1) := by kernel_rfl
def linesS17 (s : List UInt8) : List In := if (parseS (s.map fixB)).2.2 = 0 then (parseS (s.map fixB)).1 else []
theorem by_conv {w : World} {v : Value} {l : List UInt8} (h : Sl w 5 1 v (l.map byCell)) : (convert 45 9 v).run Tryz.prog w = .ok (stV l) w := by
  rcases Sl.shape h with ⟨rfl, hl⟩ | ⟨g, cap, rfl, hc, hg⟩
  · have : l = [] := by simpa using hl
    subst this
    exact run_convert_bytes_nil w 45 5 Tryz.underlying45 Tryz.underlying5 0 0 _ Tryz.underlying9
  · rw [List.length_map] at h ⊢
    refine run_convert_bytes_back (P := Tryz.prog) w _ _ 5 ⟨g, 0, none⟩ cap l Tryz.underlying45 Tryz.underlying5 Tryz.underlying9 (fun j hj => ?_)
    have := Sl.cell h (i := j) (c := byCell l[j]) (by rw [List.getElem?_map, List.getElem?_eq_getElem hj]; rfl) (k := 0) (by omega)
    rw [add_n]
    simpa [byCell] using this
set_option maxHeartbeats 8000000 in
set_option maxRecDepth 100000 in
theorem lines_any (s : List UInt8) (w : World) (hl : s.length ≤ 65536) : Calls Tryz.prog 44 #[stV s] w fun e w' =>
    (∃ v, e = .returned v ∧ InS w' v (linesS17 s) ∧ ∀ k, v.ownBlock = some k → w.heap.size ≤ k) ∧ Kept (fun _ => False) w w' := by
  have hsz := ba_size s
  obtain ⟨i0, hI0, hI1, hI2, hI3⟩ := info_parts infoByte
  have HP := Lib.hid (fun W => parse_any (s.map fixB) W (by rw [List.length_map]; omega))
  obtain ⟨R, hR⟩ : ∃ R, linesS17 s = R := ⟨_, rfl⟩
  rw [hR]
  unfold linesS17 at hR
  obtain ⟨ln, hln⟩ : ∃ ln, (parseS (s.map fixB)).2.1 = ln := ⟨_, rfl⟩
  obtain ⟨cd, hcd⟩ : ∃ cd, (parseS (s.map fixB)).2.2 = cd := ⟨_, rfl⟩
  obtain ⟨sl, hsl⟩ : ∃ sl, (parseS (s.map fixB)).1 = sl := ⟨_, rfl⟩
  rw [hln, hcd, hsl] at HP
  rw [hcd, hsl] at hR
  have HR := Lib.hid hR
  clear hR hln hcd hsl
  go_enter Tryz.func44, Tryz.ntmps44
  go_wp2_with fail
  go_loopw [3, 4] (fun tv iv wr => ∃ (i : Nat) (t' : Value), iv = .int .i64 i ∧ t' = tv ∧ i ≤ s.length ∧ Sl wr 5 1 t' (((s.take i).map fixB).map byCell) ∧ (∀ g, t'.ownBlock = some g → w.heap.size ≤ g) ∧ Kept (fun _ => False) w wr) (fun _ iv _ => s.length - (intOf iv).toNat)
  case atStart => exact ⟨0, _, rfl, rfl, by omega, Sl.nil _ _ _, fun g hg => by simp [Value.ownBlock] at hg, Kept.refl _ _⟩
  case round =>
    obtain ⟨i, tv, rfl, rfl, hi, hT, hown, hK⟩ := hrel
    by_cases hlt : i < s.length
    case neg =>
      obtain rfl : i = s.length := by omega
      have hdl : decide ((s.length : Int) < s.length) = false := decide_eq_false (by omega)
      rw [List.take_length] at hT
      have hcv := by_conv hT
      have HK := Lib.hid hK
      clear hT hown hK
      cases hc0 : ((cd : Int) == 0)
      all_goals
        have hc1 : ((cd : Int) != 0) = _ := congrArg Bool.not hc0
        have hc2 : (!((cd : Int) == 0)) = _ := congrArg Bool.not hc0
        go_wp2_with fail
        refine (HP.out _).mono ?_
        rintro e w8 ⟨⟨v, rfl, hv, ho⟩, hk8⟩
        have HV := Lib.hid hv
        have HO := Lib.hid ho
        clear hv ho
        go_wp2_with fail
      · refine bodyPost_ret (v := .slice none 0 0) (by simp [results, Tryz.results44, go_sem]) rfl ?_
        have hR := HR.out
        rw [if_neg (by intro h; rw [h] at hc0; cases hc0)] at hR
        subst hR
        exact ⟨⟨_, rfl, Sl.nil _ _ _, fun k hk => own_none hk⟩, HK.out.trans hk8 (fun _ _ h => h)⟩
      · refine bodyPost_ret (v := v) (by simp [results, Tryz.results44, go_sem]) rfl ?_
        have hR := HR.out
        rw [if_pos (by have := beq_iff_eq.1 hc0; omega)] at hR
        subst hR
        exact ⟨⟨_, rfl, HV.out, fun k hk => Nat.le_trans HK.out.size (HO.out k hk)⟩, HK.out.trans hk8 (fun _ _ h => h)⟩
    case pos =>
      have hdl : decide ((i : Int) < s.length) = true := decide_eq_true (by omega)
      obtain ⟨b, hb⟩ : ∃ b, s[i]? = some b := ⟨_, List.getElem?_eq_getElem hlt⟩
      have hix := st_index hb
      have hnx : ((s.take (i + 1)).map fixB).map byCell = ((s.take i).map fixB).map byCell ++ [byCell (fixB b)] := by
        rw [List.take_add_one, hb]
        simp
      have HNX := Lib.hid hnx
      have HT := Lib.hid hT
      have HK := Lib.hid hK
      have HOW := Lib.hid hown
      clear hb hnx hT hK hown HP HR
      have HLEN : Hid ((((s.take i).map fixB).map byCell).length = i) := Lib.hid (by simp; omega)
      have htl : (((s.take i).map fixB).map byCell).length ≤ 65536 := by simp; omega
      cases hs : ((b.toNat : Int) == 59)
      case true =>
        have hfx : byCell (fixB b) = [.int .u8 10] := by unfold byCell fixB; rw [if_pos hs]; rfl
        go_wp2_with (at_builtin; refine wpList_push (w := wr) rfl (.tmp 18) (.tmp 19) 45 rfl Tryz.underlying45 hI0 hI1 hI2 hI3 rfl (by omega) _ (((s.take i).map fixB).map byCell) [.int .u8 10] rfl rfl HT.out rfl (by simp [Value.oneCell']) (by omega) (by omega) ?_; intro g5 cap5 w5 hS5 hk5 hg5)
        rw [HLEN.out] at hS5
        go_roundw
        case rel => exact ⟨i + 1, _, by simp, rfl, by omega, by rw [HNX.out, hfx]; exact hS5, fun g hg => by
          have e : g5 = g := Option.some.inj hg
          subst e
          rcases hg5 with h | h
          · exact HOW.out _ h
          · have := HK.out.size
            omega, HK.out.trans hk5 (fun k hk e => by have := HOW.out k e; omega)⟩
        case measure => (simp [intOf]; try omega)
      case false =>
        have hfx : byCell (fixB b) = [.int .u8 b.toNat] := by unfold byCell fixB; rw [if_neg (by rw [hs]; decide)]
        go_wp2_with (at_builtin; refine wpList_push (w := wr) rfl (.tmp 21) (.tmp 25) 45 rfl Tryz.underlying45 hI0 hI1 hI2 hI3 rfl (by omega) _ (((s.take i).map fixB).map byCell) [.int .u8 b.toNat] rfl rfl HT.out rfl (by simp [Value.oneCell']) (by omega) (by omega) ?_; intro g5 cap5 w5 hS5 hk5 hg5)
        rw [HLEN.out] at hS5
        go_roundw
        case rel => exact ⟨i + 1, _, by simp, rfl, by omega, by rw [HNX.out, hfx]; exact hS5, fun g hg => by
          have e : g5 = g := Option.some.inj hg
          subst e
          rcases hg5 with h | h
          · exact HOW.out _ h
          · have := HK.out.size
            omega, HK.out.trans hk5 (fun k hk e => by have := HOW.out k e; omega)⟩
        case measure => (simp [intOf]; try omega)
theorem results_cell1 {P : Program} {fn : Func} {p : Tmp} {ty : TypeId} (h : fn.results = #[.cell p ty]) (tmps : Array Value) (w : World) (g : Nat) (t : TypeId) (cs : Array Value) (fr : Nat × Nat) (d : TypeDesc)
    (hp : tmps.getD p undef = .pointer (some ⟨g, 0, none⟩)) (hg : w.heap[g]? = some (.cells cs t fr))
    (hu : P.underlying ty = some d) (hd : (match d with | .struct _ | .array _ _ => true | _ => false) = true) (hi : (P.info? ty).map (·.size) = some cs.size) :
    (results fn tmps).run P w = .ok (.agg cs) w := by
  have hp' : tmps[p]?.getD undef = .pointer (some ⟨g, 0, none⟩) := by simpa using hp
  simp [results, h, hp', asAddr, run_loadVar_row w g t ty cs fr d hg hu hd hi]
theorem infoObj : (Tryz.prog.info? 44).map (·.size) = some 3 := by kernel_rfl
set_option maxHeartbeats 8000000 in
set_option maxRecDepth 100000 in
/-- Of: an object of one program, no maps -/
theorem of17_any (s : List UInt8) (w : World) (hl : s.length ≤ 65536) : Calls Tryz.prog 15 #[stV s, .slice none 0 0] w fun e w' =>
    (∃ v g h, e = .returned (.agg #[.slice none 0 0, .slice none 0 0, .slice (some ⟨g, 0, none⟩) 1 1]) ∧ Blk w' g 51 #[stV h, v] ∧ w.heap.size ≤ g ∧ InS w' v (linesS17 s) ∧ ∀ k, v.ownBlock = some k → w.heap.size ≤ k) ∧ Kept (fun _ => False) w w' := by
  have HL := Lib.hid (fun W => lines_any s W hl)
  obtain ⟨i0, hi0, hi1⟩ := Option.map_eq_some_iff.1 infoObj
  go_enter Tryz.func15, Tryz.ntmps15
  go_wp2_with fail
  have hb0 := Blk.new w 44 #[.slice none 0 0, .slice none 0 0, .slice none 0 0]
  refine (HL.out _).mono ?_
  rintro e w8 ⟨⟨v, rfl, hv, ho⟩, hk8⟩
  have hb8 := hk8.blk id hb0
  have hlt8 := hb8.lt
  have c0 := hb8.cell 0
  have c1 := hb8.cell 1
  have c2 := hb8.cell 2
  have f0 := hb8.frozen 0
  have f1 := hb8.frozen 1
  have f2 := hb8.frozen 2
  have hsh := Sl.shape hv
  have HV := Lib.hid hv
  have HO := Lib.hid ho
  have HB := Lib.hid hb8
  clear hv ho hb8 hb0
  obtain ⟨rfl, hlen0⟩ | ⟨g0, cap, rfl, hcap, hlt⟩ := hsh
  · go_wp2_with fail
    have hb9 := (((HB.out.set_ 0 (.slice none 0 0)).set_ 1 (.slice none 0 0)).set_ 2 (.slice (some ⟨w8.heap.size, 0, none⟩) 1 1)).alloc (.cells #[.string ⟨#[109, 97, 105, 110]⟩, .slice none 0 0] 51)
    refine bodyPost_ret (v := .agg #[.slice none 0 0, .slice none 0 0, .slice (some ⟨w8.heap.size, 0, none⟩) 1 1]) (results_cell1 rfl _ _ w.heap.size _ _ (0, 0) _ rfl hb9 Tryz.underlying44 rfl infoObj) rfl ?_
    have hs8 := hk8.size
    have hs8 : w.heap.size + 1 ≤ w8.heap.size := by simpa using hs8
    have hk9 := (((Kept.refl (fun k => k = w.heap.size) w8).setCell (p := ⟨w.heap.size, 0, none⟩) (fun _ => rfl) (.slice none 0 0)).setCell (p := ⟨w.heap.size, 1, none⟩) (fun _ => rfl) (.slice none 0 0)).setCell (p := ⟨w.heap.size, 2, none⟩) (fun _ => rfl) (.slice (some ⟨w8.heap.size, 0, none⟩) 1 1)
    have hsz9 : (((w8.setCell ⟨w.heap.size, 0, none⟩ (.slice none 0 0)).setCell ⟨w.heap.size, 1, none⟩ (.slice none 0 0)).setCell ⟨w.heap.size, 2, none⟩ (.slice (some ⟨w8.heap.size, 0, none⟩) 1 1)).heap.size = w8.heap.size := by simp [World.setCell]
    have hno : ∀ k, (Value.slice none 0 0).ownBlock = some k → w.heap.size + 1 ≤ k := fun k hk => by have := HO.out k hk; simpa using this
    refine ⟨⟨_, w8.heap.size, [109, 97, 105, 110], rfl, blk_new _ hsz9.symm, by omega, Sl.alloc (Sl.kept hk9 HV.out (fun k hk h => by have := hno k hk; have : k = w.heap.size := h; omega)) _, fun k hk => by have := hno k hk; omega⟩, ?_⟩
    exact ((((Kept.refl _ w).alloc _).trans hk8 (fun _ _ h => h)).trans hk9 (fun k hk e => by have : k = w.heap.size := e; omega)).alloc _
  · rw [List.length_map] at HV HO hcap ⊢
    go_wp2_with fail
    have hb9 := (((HB.out.set_ 0 (.slice none 0 0)).set_ 1 (.slice none 0 0)).set_ 2 (.slice (some ⟨w8.heap.size, 0, none⟩) 1 1)).alloc (.cells #[.string ⟨#[109, 97, 105, 110]⟩, .slice (some ⟨g0, 0, none⟩) (linesS17 s).length cap] 51)
    refine bodyPost_ret (v := .agg #[.slice none 0 0, .slice none 0 0, .slice (some ⟨w8.heap.size, 0, none⟩) 1 1]) (results_cell1 rfl _ _ w.heap.size _ _ (0, 0) _ rfl hb9 Tryz.underlying44 rfl infoObj) rfl ?_
    have hs8 := hk8.size
    have hs8 : w.heap.size + 1 ≤ w8.heap.size := by simpa using hs8
    have hk9 := (((Kept.refl (fun k => k = w.heap.size) w8).setCell (p := ⟨w.heap.size, 0, none⟩) (fun _ => rfl) (.slice none 0 0)).setCell (p := ⟨w.heap.size, 1, none⟩) (fun _ => rfl) (.slice none 0 0)).setCell (p := ⟨w.heap.size, 2, none⟩) (fun _ => rfl) (.slice (some ⟨w8.heap.size, 0, none⟩) 1 1)
    have hsz9 : (((w8.setCell ⟨w.heap.size, 0, none⟩ (.slice none 0 0)).setCell ⟨w.heap.size, 1, none⟩ (.slice none 0 0)).setCell ⟨w.heap.size, 2, none⟩ (.slice (some ⟨w8.heap.size, 0, none⟩) 1 1)).heap.size = w8.heap.size := by simp [World.setCell]
    have hno : ∀ k, (Value.slice (some ⟨g0, 0, none⟩) (linesS17 s).length cap).ownBlock = some k → w.heap.size + 1 ≤ k := fun k hk => by have := HO.out k hk; simpa using this
    refine ⟨⟨_, w8.heap.size, [109, 97, 105, 110], rfl, blk_new _ hsz9.symm, by omega, Sl.alloc (Sl.kept hk9 HV.out (fun k hk h => by have := hno k hk; have : k = w.heap.size := h; omega)) _, fun k hk => by have := hno k hk; omega⟩, ?_⟩
    exact ((((Kept.refl _ w).alloc _).trans hk8 (fun _ _ h => h)).trans hk9 (fun k hk e => by have : k = w.heap.size := e; omega)).alloc _
end Go.Proofs.YtdchmelgaljpfaaGreat

set_option linter.unusedSimpArgs false
set_option linter.unusedVariables false
namespace Go.Proofs.YtdchmelgaljpfaaGreat
open Go.RowKit

/-- 'r1 = 2; r1 += 3; r0 = r1; exit' -/
theorem known_slots25 : linesS17 [114, 49, 32, 61, 32, 50, 59, 32, 114, 49, 32, 43, 61, 32, 51, 59, 32, 114, 48, 32, 61, 32, 114, 49, 59, 32, 101, 120, 105, 116] = KF := by decide +kernel
set_option maxHeartbeats 8000000 in
set_option maxRecDepth 100000 in
theorem known25_any (w : World) : Calls Tryz.prog 6 #[] w fun e w' => e = .returned (.bool true) ∧ Kept (fun _ => False) w w' := by
  have HOF := Lib.hid (fun W => of17_any [114, 49, 32, 61, 32, 50, 59, 32, 114, 49, 32, 43, 61, 32, 51, 59, 32, 114, 48, 32, 61, 32, 114, 49, 59, 32, 101, 120, 105, 116] W (by decide))
  rw [known_slots25] at HOF
  have HL := Lib.hid (fun a c W hI => fFold_any KF a c W hI KF_ok)
  rw [KF_check] at HL
  go_enter Tryz.func6, Tryz.ntmps6
  go_wp2_with fail
  refine (HOF.out _).mono ?_
  rintro e w1 ⟨⟨v, g, nm, rfl, hb, hg, hI, ho⟩, hk1⟩
  have hc1 := hb.cell 1
  have hgl := hb.lt
  have hII := hI.ins
  obtain ⟨va, vc, rfl⟩ := Sl.any hI
  have hlen : (List.map icells KF).length = 4 := rfl
  have hII := Lib.hid hII
  have hfld : ∀ W, (Instr.field 44 (.agg #[.slice none 0 0, .slice none 0 0, .slice (some ⟨g, 0, none⟩) 1 1]) 2).run Tryz.prog W = .ok (.slice (some ⟨g, 0, none⟩) 1 1) W := fun W => by kernel_rfl
  clear hb hI ho HOF
  go_wp2_with fail
  have hI1 : Ins w1 (.slice va KF.length vc) KF := by have := hII.out; exact this
  refine (HL.out va vc w1 hI1).mono ?_
  rintro e w2 ⟨mv, rfl, -, h2, hk2, -⟩
  obtain ⟨V, hV, hM⟩ := h2 trivial
  rw [KF_fold hV] at hM
  have hK2 := hk1.trans hk2 (fun _ _ h => h)
  have hMI := InS.ins hM
  obtain ⟨mg, mc, rfl, -, -⟩ := Sl.some_ hM (by simp)
  have hM1 := hMI.at_ (i := 1) (x := ⟨183, 1, 0, 0, 5⟩) rfl
  have hM2 := hMI.at_ (i := 2) (x := ⟨183, 0, 0, 0, 5⟩) rfl
  obtain ⟨g1, o1, e1, z1, a0, a1, a2, a3, a4⟩ := hM1
  obtain ⟨g2, o2, e2, z2, b0, b1, b2, b3, b4⟩ := hM2
  cases e1
  cases e2
  clear h2 hM hMI hk2 HL hI1 hII hV
  go_wp2_with fail
  go_ret
  exact ⟨rfl, hK2⟩

end Go.Proofs.YtdchmelgaljpfaaGreat

