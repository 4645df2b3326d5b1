import Derived.Test.YtmgdjiplpfeoiaaDoorYk
import Derived.Test.YtmgdjiplpfeoiaaDoorYe
import Derived.Test.YtmgdjiplpfeoiaaDoorTree
import Derived.Test.YtmgdjiplpfeoiaaDoorMh
import Derived.Test.YtmgdjiplpfeoiaaDoorTu
import Derived.Deep.MidRow
import Derived.Outline
import Derived.Deep.DeepCutAuto
import Derived.Deep.CutBlock
import Derived.Test.YtmgdjiplpfeoiaaDoorUe
import Derived.Test.YtmgdjiplpfeoiaaDoorYl
import Derived.Test.YtmgdjiplpfeoiaaDoorFw
import Derived.Test.YtmgdjiplpfeoiaaDoorTt
set_option linter.unusedSimpArgs false
set_option linter.unusedVariables false
namespace Go.Proofs.YtmgdjiplpfeoiaaDoor
open Go.RowKit

/-! ### what bytes are read as: plain -/
structure TyOk (t : Ty) : Prop where
  kind : 1 ≤ t.kind ∧ t.kind ≤ 6
  name : t.name.length ≤ 32
  size : 0 ≤ t.size ∧ t.size ≤ 65536
  tgt : 0 ≤ t.to ∧ t.to ≤ 256
  count : 0 ≤ t.count ∧ t.count ≤ 65536
  mem : t.mem.length ≤ 64
  mems : ∀ m ∈ t.mem, m.name.length ≤ 32 ∧ (0 ≤ m.type ∧ m.type ≤ 256) ∧ 0 ≤ m.bits ∧ m.bits ≤ 524288

theorem laidM_cap {l : List Ty} {size : Int} (hsz : size ≤ 65536) : ∀ {ms : List Mb} {e : Int}, laidM l size ms e = true → ∀ m ∈ ms, 0 ≤ m.bits ∧ m.bits ≤ 524288
  | [], _, _, m, hm => by cases hm
  | x :: r, e, h, m, hm => by
    unfold laidM at h
    simp only [Bool.and_eq_true, Bool.not_eq_true', Bool.or_eq_false_iff, decide_eq_false_iff_not, bne_eq_false_iff_eq] at h
    obtain ⟨⟨⟨⟨⟨h1, h2⟩, _⟩, h4⟩, _⟩, h6⟩ := h
    rcases List.mem_cons.1 hm with rfl | hm
    · omega
    · exact laidM_cap hsz h6 m hm

theorem ok_of {l : List Ty} (hr : Raw l) (h : (checkL l).2 = 0) : l.length ≤ 256 ∧ ∀ t ∈ l, TyOk t := by
  obtain ⟨hg, _, hL⟩ := good_of hr h
  refine ⟨hg.fit.len, fun t ht => ?_⟩
  obtain ⟨i, hi, e⟩ := List.mem_iff_getElem.1 ht
  have hti : l[i]? = some t := by rw [List.getElem?_eq_getElem hi, e]
  have ha := hg.alone i t hti
  obtain ⟨hs, hw, hk1, hk6⟩ := alone_sized ha
  obtain ⟨hn, hmn⟩ := alone_short ha
  have hlen := hg.fit.len
  have hlaid : laidB l ((i : Int) + 1) t = true := by
    have := firstF_none hL (i := i) hi
    simpa [pL, hti] using this
  unfold wholeB at hw
  simp only [Bool.and_eq_true, List.all_eq_true, decide_eq_true_eq, beq_iff_eq] at hw
  obtain ⟨hmi, ⟨⟨⟨⟨ht1, ht2⟩, hsz⟩, hsg⟩, hct⟩, hml⟩ := hw
  have hto : 0 ≤ t.to ∧ t.to ≤ 256 := by
    have h1 : 0 ≤ leastC t.kind := by unfold leastC; split <;> omega
    have h2 : mostC t.kind l.length ≤ 256 := by unfold mostC; split <;> omega
    omega
  have hsize : 0 ≤ t.size ∧ t.size ≤ 65536 := by
    unfold sizedB at hs
    by_cases k1 : t.kind = 1
    · rw [if_pos k1] at hs
      simp only [Bool.or_eq_true, beq_iff_eq] at hs
      omega
    · rw [if_neg k1] at hs
      by_cases k4 : t.kind = 4
      · rw [if_neg (by omega), if_pos k4] at hs
        simpa using hs
      · rw [if_neg (by omega)] at hsz
        omega
  have hcount : 0 ≤ t.count ∧ t.count ≤ 65536 := by
    unfold sizedB at hs
    by_cases k3 : t.kind = 3
    · rw [if_neg (by omega), if_pos k3] at hs
      simpa using hs
    · rw [if_neg k3] at hct
      omega
  refine ⟨⟨hk1, hk6⟩, hn, hsize, hto, hcount, hg.fit.mem t ht, fun m hm => ⟨hmn m hm, ?_, ?_⟩⟩
  · have := hmi m hm
    unfold memIn at this
    simp only [Bool.and_eq_true, decide_eq_true_eq] at this
    omega
  · by_cases k4 : t.kind = 4
    · unfold laidB at hlaid
      rw [if_neg (by omega), if_pos k4] at hlaid
      exact laidM_cap hsize.2 hlaid m hm
    · have hne : t.mem.length ≠ 0 := fun e0 => by rw [List.length_eq_zero_iff] at e0; rw [e0] at hm; cases hm
      have k6 : t.kind = 6 := by
        by_cases k6 : t.kind = 6
        · exact k6
        · rw [if_neg (by omega)] at hml
          exact absurd hml hne
      have := hmi m hm
      unfold memIn at this
      simp only [Bool.and_eq_true, Bool.not_eq_true', Bool.and_eq_false_iff, beq_eq_false_iff_ne, bne_eq_false_iff_eq, ne_eq] at this
      rcases this.2 with h | h
      · exact absurd k6 h
      · omega

/-! ### pieces of bytes -/
/-- from i up to j stand these ones -/
def Seg (b : List UInt8) (i j : Nat) (X : List UInt8) : Prop := j = i + X.length ∧ ∃ s, b.drop i = X ++ s
section
variable {b : List UInt8} {i j k n : Nat} {X Y : List UInt8}
theorem Seg.nil (b : List UInt8) (i : Nat) : Seg b i i [] := ⟨rfl, _, rfl⟩
theorem Seg.trans (h : Seg b i j X) (h2 : Seg b j k Y) : Seg b i k (X ++ Y) := by
  obtain ⟨rfl, s, e⟩ := h
  obtain ⟨rfl, s', e'⟩ := h2
  refine ⟨by simp; omega, s', ?_⟩
  rw [← List.drop_drop, e, List.drop_left] at e'
  rw [e, e', List.append_assoc]
theorem Seg.left (h : Seg b i k (X ++ Y)) : Seg b i (i + X.length) X := by
  obtain ⟨rfl, s, e⟩ := h
  exact ⟨rfl, Y ++ s, by rw [e, List.append_assoc]⟩
theorem Seg.right (h : Seg b i k (X ++ Y)) : Seg b (i + X.length) k Y := by
  obtain ⟨rfl, s, e⟩ := h
  refine ⟨by simp; omega, s, ?_⟩
  rw [← List.drop_drop, e, List.append_assoc, List.drop_left]
theorem Seg.end_ (h : Seg b i j X) : j = i + X.length := h.1
theorem Seg.all (h : Seg b 0 n X) : n ≤ b.length ∧ b.take n = X := by
  obtain ⟨rfl, s, e⟩ := h
  rw [List.drop_zero] at e
  subst e
  simp
theorem Seg.front (X Y : List UInt8) : Seg (X ++ Y) 0 X.length X := ⟨by simp, Y, rfl⟩
theorem take_seg (h : Seg b i j X) (hn : X.length = n) : takeR b n (i, false) = (X, (j, false)) := by
  obtain ⟨rfl, s, e⟩ := h
  have hl : b.length - i = X.length + s.length := by rw [← List.length_drop, e, List.length_append]
  unfold takeR
  rw [if_neg (by simp; omega)]
  simp only [e, ← hn, List.take_left']
theorem seg_take {s s' : St} (e : takeR b n s = (X, s')) (h : s'.2 = false) : s.2 = false ∧ X.length = n ∧ Seg b s.1 s'.1 X := by
  unfold takeR at e
  split at e
  · simp only [Prod.mk.injEq] at e
    obtain ⟨_, rfl⟩ := e
    cases h
  · rename_i hc
    simp only [Prod.mk.injEq] at e
    obtain ⟨rfl, rfl⟩ := e
    have h0 : s.2 = false := by cases hb : s.2 <;> simp_all
    have h1 : n ≤ b.length - s.1 := by simp at hc; omega
    have hl : ((b.drop s.1).take n).length = n := by simp; omega
    exact ⟨h0, hl, by rw [hl], (b.drop s.1).drop n, by rw [List.take_append_drop]⟩
end

theorem lowB_nat (x : UInt8) : lowB ((x.toNat : Nat) : Int) = x := by
  apply UInt8.toNat_inj.1
  have := u8_toNat ((x.toNat : Nat) : Int)
  have hx := x.toNat_lt
  omega
theorem lowB_toNat {n : Int} (h : 0 ≤ n ∧ n < 256) : (lowB n).toNat = n.toNat := by
  have := u8_toNat n
  omega
theorem leN_b4 {n : Int} (h : 0 ≤ n ∧ n < 4294967296) : leN (b4 n) = n.toNat := by
  have h0 := u8_toNat n
  have h1 := u8_toNat (n / 256)
  have h2 := u8_toNat (n / 65536)
  have h3 := u8_toNat (n / 16777216)
  simp only [b4, leN]
  omega
theorem lowB_mod (x : UInt8) (n : Int) (h : n % 256 = x.toNat) : lowB n = x := by
  rw [← lowB_nat x]
  exact u8_mod (by have := x.toNat_lt; omega)
theorem b4_leN {X : List UInt8} (h : X.length = 4) : b4 ((leN X : Nat) : Int) = X := by
  match X, h with
  | [a, c, d, e], _ =>
    have ha := a.toNat_lt
    have hc := c.toNat_lt
    have hd := d.toNat_lt
    have he := e.toNat_lt
    simp only [b4, leN]
    rw [lowB_mod a _ (by omega), lowB_mod c _ (by omega), lowB_mod d _ (by omega), lowB_mod e _ (by omega)]

section
variable {b : List UInt8} {i j : Nat} {s s' : St}
theorem seg_byte {x : Nat} (e : byteR b s = (x, s')) (h : s'.2 = false) : s.2 = false ∧ Seg b s.1 s'.1 [lowB x] := by
  obtain ⟨r, hr⟩ : ∃ r, takeR b 1 s = r := ⟨_, rfl⟩
  obtain ⟨X, t⟩ := r
  unfold byteR at e
  rw [hr] at e
  simp only [Prod.mk.injEq] at e
  obtain ⟨rfl, rfl⟩ := e
  obtain ⟨h0, hl, hS⟩ := seg_take hr h
  refine ⟨h0, ?_⟩
  rw [lowB_nat, ← one_of hl]
  exact hS
theorem byte_seg {n : Int} (h : Seg b i j [lowB n]) (hn : 0 ≤ n ∧ n < 256) : byteR b (i, false) = (n.toNat, (j, false)) := by
  unfold byteR
  rw [take_seg (n := 1) h rfl]
  simp only [List.headD_cons, lowB_toNat hn]
theorem seg_num {L x : Nat} (e : numR L b s = (x, s')) (h : s'.2 = false) : s.2 = false ∧ Seg b s.1 s'.1 (b4 x) := by
  obtain ⟨r, hr⟩ : ∃ r, takeR b 4 s = r := ⟨_, rfl⟩
  obtain ⟨X, t⟩ := r
  unfold numR at e
  rw [hr] at e
  simp only at e
  split at e
  · simp only [Prod.mk.injEq] at e
    obtain ⟨_, rfl⟩ := e
    cases h
  · simp only [Prod.mk.injEq] at e
    obtain ⟨rfl, rfl⟩ := e
    obtain ⟨h0, hl, hS⟩ := seg_take hr h
    exact ⟨h0, by rw [b4_leN hl]; exact hS⟩
theorem num_seg {L : Nat} {n : Int} (h : Seg b i j (b4 n)) (hn : 0 ≤ n ∧ n ≤ L) (hL : L < 4294967296) : numR L b (i, false) = (n.toNat, (j, false)) := by
  unfold numR
  rw [take_seg (n := 4) h rfl]
  simp only [leN_b4 (n := n) (by omega)]
  rw [if_neg (by simp; omega)]
theorem seg_nm {nm : List UInt8} (e : nmR b s = (nm, s')) (h : s'.2 = false) : s.2 = false ∧ Seg b s.1 s'.1 (nmB nm) := by
  obtain ⟨r, hr⟩ : ∃ r, byteR b s = r := ⟨_, rfl⟩
  obtain ⟨x, t⟩ := r
  unfold nmR at e
  rw [hr] at e
  obtain ⟨h0, hl, hS⟩ := seg_take e h
  obtain ⟨h1, hS1⟩ := seg_byte hr h0
  refine ⟨h1, ?_⟩
  have := hS1.trans hS
  unfold nmB
  rw [hl]
  exact this
theorem nm_seg {nm : List UInt8} (h : Seg b i j (nmB nm)) (hn : nm.length < 256) : nmR b (i, false) = (nm, (j, false)) := by
  have h' : Seg b i j ([lowB nm.length] ++ nm) := h
  unfold nmR
  rw [byte_seg h'.left (by omega)]
  exact take_seg h'.right (by simp)

/-! ### members -/
structure Wide (L : Lim) : Prop where
  size : 65536 ≤ L.size ∧ L.size < 4294967296
  tgt : 256 ≤ L.tgt ∧ L.tgt < 4294967296
  count : 65536 ≤ L.count ∧ L.count < 4294967296
  mem : 64 ≤ L.mem ∧ L.mem < 4294967296
  type : 256 ≤ L.type ∧ L.type < 4294967296
  bits : 524288 ≤ L.bits ∧ L.bits < 4294967296
  types : 256 ≤ L.types ∧ L.types < 4294967296
  capM : 64 ≤ L.capM ∧ (L.mem ≤ L.capM ∨ 64 < L.capM)
  capT : 256 ≤ L.capT ∧ (L.types ≤ L.capT ∨ 256 < L.capT)
theorem wideB : Wide limB := by constructor <;> decide
theorem wideR : Wide limR := by constructor <;> decide
variable {L : Lim}
theorem seg_mb {m : Mb} (e : mbR L b s = (m, s')) (h : s'.2 = false) : s.2 = false ∧ Seg b s.1 s'.1 (mbB m) := by
  obtain ⟨⟨x1, s1⟩, e1⟩ : ∃ r, nmR b s = r := ⟨_, rfl⟩
  obtain ⟨⟨x2, s2⟩, e2⟩ : ∃ r, numR L.type b s1 = r := ⟨_, rfl⟩
  obtain ⟨⟨x3, s3⟩, e3⟩ : ∃ r, numR L.bits b s2 = r := ⟨_, rfl⟩
  unfold mbR at e
  simp only [e1, e2, e3, Prod.mk.injEq] at e
  obtain ⟨rfl, rfl⟩ := e
  obtain ⟨h2, S3⟩ := seg_num e3 h
  obtain ⟨h1, S2⟩ := seg_num e2 h2
  obtain ⟨h0, S1⟩ := seg_nm e1 h1
  exact ⟨h0, (S1.trans S2).trans S3⟩
theorem mb_seg {m : Mb} (hL : Wide L) (h : Seg b i j (mbB m)) (hm : m.name.length ≤ 32 ∧ (0 ≤ m.type ∧ m.type ≤ 256) ∧ 0 ≤ m.bits ∧ m.bits ≤ 524288) : mbR L b (i, false) = (m, (j, false)) := by
  have h' : Seg b i j ((nmB m.name ++ b4 m.type) ++ b4 m.bits) := h
  obtain ⟨m1, m2, m3⟩ := hm
  have t1 := hL.type
  have t2 := hL.bits
  have e1 := nm_seg h'.left.left (by omega)
  have e2 := num_seg (L := L.type) h'.left.right (by omega) (by omega)
  have e3 := num_seg (L := L.bits) h'.right (by omega) (by omega)
  unfold mbR
  simp only [e1, e2, e3]
  obtain ⟨nm, ty, bi⟩ := m
  simp only at m2 m3 ⊢
  rw [Int.toNat_of_nonneg m2.1, Int.toNat_of_nonneg m3.1]
theorem seg_mems : ∀ {n : Nat} {ms : List Mb} {s s' : St}, memsR L b n s = (ms, s') → s'.2 = false → s.2 = false ∧ ms.length = n ∧ Seg b s.1 s'.1 ((ms.map mbB).flatten)
  | 0, ms, s, s', e, h => by
    simp only [memsR, Prod.mk.injEq] at e
    obtain ⟨rfl, rfl⟩ := e
    exact ⟨h, rfl, Seg.nil _ _⟩
  | n + 1, ms, s, s', e, h => by
    unfold memsR at e
    split at e
    · rename_i hb
      simp only [Prod.mk.injEq] at e
      obtain ⟨rfl, rfl⟩ := e
      rw [hb] at h
      cases h
    · obtain ⟨⟨m, s1⟩, e1⟩ : ∃ r, mbR L b s = r := ⟨_, rfl⟩
      obtain ⟨⟨ms', s2⟩, e2⟩ : ∃ r, memsR L b n s1 = r := ⟨_, rfl⟩
      simp only [e1, e2, Prod.mk.injEq] at e
      obtain ⟨rfl, rfl⟩ := e
      obtain ⟨h1, hl, S2⟩ := seg_mems e2 h
      obtain ⟨h0, S1⟩ := seg_mb e1 h1
      exact ⟨h0, by simp [hl], by simpa using S1.trans S2⟩
theorem mems_seg (hL : Wide L) : ∀ {ms : List Mb} {i j : Nat}, Seg b i j ((ms.map mbB).flatten) → (∀ m ∈ ms, m.name.length ≤ 32 ∧ (0 ≤ m.type ∧ m.type ≤ 256) ∧ 0 ≤ m.bits ∧ m.bits ≤ 524288) → memsR L b ms.length (i, false) = (ms, (j, false))
  | [], i, j, h, _ => by
    have := h.end_
    simp at this
    subst this
    rfl
  | m :: ms, i, j, h, hm => by
    have h' : Seg b i j (mbB m ++ (ms.map mbB).flatten) := by simpa using h
    have e1 := mb_seg hL h'.left (hm m (List.mem_cons_self ..))
    have e2 := mems_seg hL h'.right (fun x hx => hm x (List.mem_cons_of_mem _ hx))
    rw [List.length_cons, memsR]
    simp only [e1, e2, Bool.false_eq_true, if_false]

/-! ### types -/
theorem seg_typ {t : Ty} (hL : Wide L) (e : typR L b s = (t, s')) (h : s'.2 = false) (hm : t.mem.length ≤ 64) : s.2 = false ∧ Seg b s.1 s'.1 (tyB t) := by
  obtain ⟨⟨k, s1⟩, e1⟩ : ∃ r, byteR b s = r := ⟨_, rfl⟩
  obtain ⟨⟨nm, s2⟩, e2⟩ : ∃ r, nmR b s1 = r := ⟨_, rfl⟩
  obtain ⟨⟨sz, s3⟩, e3⟩ : ∃ r, numR L.size b s2 = r := ⟨_, rfl⟩
  obtain ⟨⟨fl, s4⟩, e4⟩ : ∃ r, byteR b s3 = r := ⟨_, rfl⟩
  obtain ⟨⟨tt, s5⟩, e5⟩ : ∃ r, numR L.tgt b (flagS (fl, s4)) = r := ⟨_, rfl⟩
  obtain ⟨⟨ct, s6⟩, e6⟩ : ∃ r, numR L.count b s5 = r := ⟨_, rfl⟩
  obtain ⟨⟨M, s7⟩, e7⟩ : ∃ r, numR L.mem b s6 = r := ⟨_, rfl⟩
  obtain ⟨⟨ms, s8⟩, e8⟩ : ∃ r, memsR L b (min M L.capM) s7 = r := ⟨_, rfl⟩
  unfold typR hdR at e
  simp only [e1, e2, e3, e4, e5, e6, e7, e8, Prod.mk.injEq] at e
  obtain ⟨rfl, rfl⟩ := e
  simp only at hm
  obtain ⟨h7, hl, S8⟩ := seg_mems e8 h
  obtain ⟨h6, S7⟩ := seg_num e7 h7
  obtain ⟨h5, S6⟩ := seg_num e6 h6
  obtain ⟨h4', S5⟩ := seg_num e5 h5
  have h4 : s4.2 = false ∧ fl ≤ 1 := by simpa [flagS] using h4'
  obtain ⟨h3, S4⟩ := seg_byte e4 h4.1
  obtain ⟨h2, S3⟩ := seg_num e3 h3
  obtain ⟨h1, S2⟩ := seg_nm e2 h2
  obtain ⟨h0, S1⟩ := seg_byte e1 h1
  refine ⟨h0, ?_⟩
  have hM : M = ms.length := by
    have hle : M ≤ L.mem := by have := numR_le L.mem b s6; rw [e7] at this; exact this
    have hc := hL.capM
    omega
  have hf : [lowB (fl : Int)] = [if (fl == 1) = true then (1 : UInt8) else 0] := by
    rcases (by omega : fl = 0 ∨ fl = 1) with rfl | rfl <;> decide
  rw [hf] at S4
  rw [hM] at S7
  have S5' : Seg b s4.1 s5.1 (b4 tt) := S5
  have := ((((S1.trans S2).trans S3).trans S4).trans ((S5'.trans S6).trans S7)).trans S8
  exact this
theorem typ_seg {t : Ty} (hL : Wide L) (h : Seg b i j (tyB t)) (ht : TyOk t) : typR L b (i, false) = (t, (j, false)) := by
  have h' : Seg b i j (((([lowB t.kind] ++ nmB t.name) ++ b4 t.size) ++ [if t.signed then 1 else 0]) ++ ((b4 t.to ++ b4 t.count) ++ b4 t.mem.length) ++ (t.mem.map mbB).flatten) := h
  obtain ⟨tk, tn, ts, tto, tc, tm, tms⟩ := ht
  have l1 := hL.size
  have l2 := hL.tgt
  have l3 := hL.count
  have l4 := hL.mem
  have l5 := hL.capM
  have hf : [if t.signed then (1 : UInt8) else 0] = [lowB (if t.signed then 1 else 0)] := by cases t.signed <;> decide
  rw [hf] at h'
  have e1 := byte_seg h'.left.left.left.left.left (by omega)
  have e2 := nm_seg h'.left.left.left.left.right (by omega)
  have e3 := num_seg (L := L.size) h'.left.left.left.right (by omega) (by omega)
  have e4 := byte_seg h'.left.left.right (by split <;> omega)
  have e5 := num_seg (L := L.tgt) h'.left.right.left.left (by omega) (by omega)
  have e6 := num_seg (L := L.count) h'.left.right.left.right (by omega) (by omega)
  have e7 := num_seg (L := L.mem) h'.left.right.right (by omega) (by omega)
  have e8 := mems_seg hL h'.right tms
  unfold typR hdR
  simp only [e1, e2, e3, e4]
  have hfl : ∀ at_ : Nat, flagS ((if t.signed = true then (1 : Int) else 0).toNat, (at_, false)) = (at_, false) := fun at_ => by
    cases t.signed <;> rfl
  simp only [hfl, e5, e6, e7]
  rw [Int.toNat_natCast, Nat.min_eq_left (by omega), e8]
  have hs1 : ((if t.signed = true then (1 : Int) else 0).toNat == 1) = t.signed := by cases t.signed <;> rfl
  obtain ⟨k, nm, sz, sg, to_, ct, ms⟩ := t
  simp only at hs1 tk ts tto tc ⊢
  rw [hs1, Int.toNat_of_nonneg (by omega), Int.toNat_of_nonneg ts.1, Int.toNat_of_nonneg tto.1, Int.toNat_of_nonneg tc.1]
theorem seg_typs (hL : Wide L) : ∀ {n : Nat} {l : List Ty} {s s' : St}, typsR L b n s = (l, s') → s'.2 = false → (∀ t ∈ l, t.mem.length ≤ 64) → s.2 = false ∧ l.length = n ∧ Seg b s.1 s'.1 ((l.map tyB).flatten)
  | 0, l, s, s', e, h, _ => by
    simp only [typsR, Prod.mk.injEq] at e
    obtain ⟨rfl, rfl⟩ := e
    exact ⟨h, rfl, Seg.nil _ _⟩
  | n + 1, l, s, s', e, h, hm => by
    unfold typsR at e
    split at e
    · rename_i hb
      simp only [Prod.mk.injEq] at e
      obtain ⟨rfl, rfl⟩ := e
      rw [hb] at h
      cases h
    · obtain ⟨⟨t, s1⟩, e1⟩ : ∃ r, typR L b s = r := ⟨_, rfl⟩
      obtain ⟨⟨l', s2⟩, e2⟩ : ∃ r, typsR L b n s1 = r := ⟨_, rfl⟩
      simp only [e1, e2, Prod.mk.injEq] at e
      obtain ⟨rfl, rfl⟩ := e
      obtain ⟨h1, hl, S2⟩ := seg_typs hL e2 h (fun x hx => hm x (List.mem_cons_of_mem _ hx))
      obtain ⟨h0, S1⟩ := seg_typ hL e1 h1 (hm t (List.mem_cons_self ..))
      exact ⟨h0, by simp [hl], by simpa using S1.trans S2⟩
theorem typs_seg (hL : Wide L) : ∀ {l : List Ty} {i j : Nat}, Seg b i j ((l.map tyB).flatten) → (∀ t ∈ l, TyOk t) → typsR L b l.length (i, false) = (l, (j, false))
  | [], i, j, h, _ => by
    have := h.end_
    simp at this
    subst this
    rfl
  | t :: l, i, j, h, ht => by
    have h' : Seg b i j (tyB t ++ (l.map tyB).flatten) := by simpa using h
    have e1 := typ_seg hL h'.left (ht t (List.mem_cons_self ..))
    have e2 := typs_seg hL h'.right (fun x hx => ht x (List.mem_cons_of_mem _ hx))
    rw [List.length_cons, typsR]
    simp only [e1, e2, Bool.false_eq_true, if_false]
end

/-! ### whole lists -/
theorem raw_raw {L : Lim} (hb : L.bits ≤ 2147483647) (hc : L.capT ≤ 1000) (b : List UInt8) : Raw (rawR L b).1 := by
  refine raw_of ?_ (typsR_raw L b hb _ _)
  have := typsR_len L b (min (cntR L b).1 L.capT) (cntR L b).2
  unfold rawR
  omega
theorem raw_seg {L : Lim} (hL : Wide L) (hb : L.bits ≤ 2147483647) (hc : L.capT ≤ 1000) {b : List UInt8} (h1 : (rawR L b).2.2 = false) (h2 : (checkL (rawR L b).1).2 = 0) : Seg b 0 (rawR L b).2.1 (listB (rawR L b).1) ∧ (cntR L b).1 = (rawR L b).1.length := by
  obtain ⟨hlen, hok⟩ := ok_of (raw_raw hb hc b) h2
  obtain ⟨⟨N, s0⟩, e0⟩ : ∃ r, numR L.types b (0, false) = r := ⟨_, rfl⟩
  obtain ⟨⟨l, s'⟩, e1⟩ : ∃ r, typsR L b (min N L.capT) s0 = r := ⟨_, rfl⟩
  have hr : rawR L b = (l, s') := by unfold rawR cntR; rw [e0]; exact e1
  have hcn : (cntR L b).1 = N := by unfold cntR; rw [e0]
  rw [hr] at h1 hlen hok ⊢
  rw [hcn]
  simp only at h1 hlen hok ⊢
  obtain ⟨h0, hl, S1⟩ := seg_typs hL e1 h1 (fun t ht => (hok t ht).mem)
  obtain ⟨_, S0⟩ := seg_num e0 h0
  have hN : N = l.length := by
    have hle : N ≤ L.types := by have := numR_le L.types b (0, false); rw [e0] at this; exact this
    have := hL.capT
    omega
  refine ⟨?_, hN⟩
  rw [hN] at S0
  exact S0.trans S1
theorem seg_raw {L : Lim} (hL : Wide L) {b : List UInt8} {l : List Ty} {n : Nat} (hr : Raw l) (hc : (checkL l).2 = 0) (h : Seg b 0 n (listB l)) : rawR L b = (l, (n, false)) ∧ (cntR L b).1 = l.length := by
  obtain ⟨hlen, hok⟩ := ok_of hr hc
  have h' : Seg b 0 n (b4 l.length ++ (l.map tyB).flatten) := h
  have l1 := hL.types
  have l2 := hL.capT
  have e0 := num_seg (L := L.types) h'.left (by omega) (by omega)
  have e1 := typs_seg hL h'.right hok
  have hcn : cntR L b = (l.length, (0 + (b4 (l.length : Int)).length, false)) := by unfold cntR; rw [e0, Int.toNat_natCast]
  refine ⟨?_, by rw [hcn]⟩
  unfold rawR
  rw [hcn]
  simp only
  rw [Nat.min_eq_left (by omega), e1]

theorem decB_ok {b : List UInt8} {l : List Ty} {n : Nat} (hr : Raw l) (hc : (checkL l).2 = 0) (h : Seg b 0 n (listB l)) : decB b = (l, n, 0) := by
  obtain ⟨e, _⟩ := seg_raw wideB hr hc h
  unfold decB
  rw [e, if_neg (by simp [hc])]
theorem decR_ok {b : List UInt8} {l : List Ty} {n : Nat} (hr : Raw l) (hc : (checkL l).2 = 0) (h : Seg b 0 n (listB l)) : decR b = (l, n, 0) := by
  obtain ⟨e, e2⟩ := seg_raw wideR hr hc h
  unfold decR
  rw [e, if_neg (by simp [hc, e2])]
/-- what Decode tells: a list and its bytes, or that there is none -/
theorem decB_cases (b : List UInt8) : decB b = ([], 0, 40) ∨ ∃ l n, decB b = (l, n, 0) ∧ Raw l ∧ (checkL l).2 = 0 ∧ Seg b 0 n (listB l) := by
  by_cases h : (rawR limB b).2.2 = true ∨ (checkL (rawR limB b).1).2 ≠ 0
  · left; unfold decB; rw [if_pos h]
  · right
    have h1 : (rawR limB b).2.2 = false := by cases e : (rawR limB b).2.2 <;> simp_all
    have h2 : (checkL (rawR limB b).1).2 = 0 := by
      by_cases e : (checkL (rawR limB b).1).2 = 0
      · exact e
      · exact absurd (.inr e) h
    exact ⟨_, _, by unfold decB; rw [if_neg h], raw_raw (by decide) (by decide) b, h2, (raw_seg wideB (by decide) (by decide) h1 h2).1⟩
theorem decR_cases (b : List UInt8) : decR b = ([], 0, 40) ∨ ∃ l n, decR b = (l, n, 0) ∧ Raw l ∧ (checkL l).2 = 0 ∧ Seg b 0 n (listB l) := by
  by_cases h : (rawR limR b).2.2 = true ∨ (checkL (rawR limR b).1).2 ≠ 0 ∨ (cntR limR b).1 ≠ (rawR limR b).1.length
  · left; unfold decR; rw [if_pos h]
  · right
    have h1 : (rawR limR b).2.2 = false := by cases e : (rawR limR b).2.2 <;> simp_all
    have h2 : (checkL (rawR limR b).1).2 = 0 := by
      by_cases e : (checkL (rawR limR b).1).2 = 0
      · exact e
      · exact absurd (.inr (.inl e)) h
    exact ⟨_, _, by unfold decR; rw [if_neg h], raw_raw (by decide) (by decide) b, h2, (raw_seg wideR (by decide) (by decide) h1 h2).1⟩
/-- both tell the same -/
theorem dec_same (b : List UInt8) : decR b = decB b := by
  rcases decB_cases b with e | ⟨l, n, e, hr, hc, hS⟩
  · rcases decR_cases b with e' | ⟨l, n, e', hr, hc, hS⟩
    · rw [e, e']
    · rw [decB_ok hr hc hS] at e
      cases e
  · rw [e]
    exact decR_ok hr hc hS
theorem decB_raw (b : List UInt8) : Raw (decB b).1 := by
  rcases decB_cases b with e | ⟨l, n, e, hr, hc, hS⟩
  · rw [e]
    exact raw_of (by simp) (fun t ht => by cases ht)
  · rw [e]
    exact hr

end Go.Proofs.YtmgdjiplpfeoiaaDoor
set_option linter.unusedSimpArgs false
set_option linter.unusedVariables false
namespace Go.Proofs.YtmgdjiplpfeoiaaDoor
open Go.RowKit

/-! ### Same -/
abbrev zT : Array Value := #[.int .i64 0, nV [], .int .i64 0, .bool false, .int .i64 0, .int .i64 0, .slice none 0 0]
theorem infoT7 : (Tryd.prog.info? 38).map (·.size) = some 7 := by kernel_rfl
/-- a load of a whole type, in a region of the class C -/
theorem mix_loadT {ops : Array Oper} {C : World → Prop} {K : Act → World → Prop} {ks : List Kd} {o : Oper} {l : List Oper} {a : Act} {w : World} (hC : C w) (hg : o.guard = none) (x : Operand) (hop : o.op = .load 38 x)
    (g off : Nat) (t : Ty) (v : Value) (hx : a.eval x = .pointer (some ⟨g, off, none⟩)) (hc : ∀ w', C w' → w'.rangeAt g off (rowV t v)) (h : Mix Tryd.prog ops C K ks l (a.put o.dst (.agg (tyVals t v))) w) : Mix Tryd.prog ops C K (.l :: ks) (o :: l) a w :=
  mix_val1 hC hg (.agg (tyVals t v)) (fun w' hw' => by
    have := run_loadAt_mid (P := Tryd.prog) w' g off 38 (rowV t v) _ (hc w' hw') Tryd.underlying38 rfl (by rw [infoT7, rowV_len])
    have e : (rowV t v).toArray = tyVals t v := rfl
    rw [e] at this
    simp [execOp, hop, hx, this, Result.andThen]) h
theorem tys_range {w : World} {a : Option Addr} {n c : Nat} {l : List Ty} (h : Tys w (.slice a n c) l) {i : Nat} {t : Ty} (ht : l[i]? = some t) : ∃ g off mv, a = some ⟨g, off, none⟩ ∧ g < w.heap.size ∧ Mbs w mv t.mem ∧ w.rangeAt g (off + i * 7) (rowV t mv) := by
  obtain ⟨a', c', hv, _, hc⟩ := h
  obtain ⟨g, off, mv, ha, hg, hm, hcell⟩ := hc i t ht
  cases hv
  exact ⟨g, off, mv, ha, hg, hm, fun j v hj => hcell j v (by simpa [rowV] using hj)⟩
theorem Kept.range {w w' : World} {g o : Nat} {cs : List Value} (hk : Kept (fun _ => False) w w') (hg : g < w.heap.size) (h : w.rangeAt g o cs) : w'.rangeAt g o cs :=
  fun j v hj => (hk.cell (p := ⟨g, o + j, none⟩) hg (fun h => h)).trans (h j v hj)

theorem Kept.setRow {F : Nat → Prop} {w0 : World} {b : Nat} (hF : b < w0.heap.size → F b) : ∀ (vs : List Value) (o : Nat) {w : World}, Kept F w0 w → Kept F w0 (w.setCells b o vs)
  | [], _, _, h => h
  | v :: r, o, w, h => by
    rw [World.setCells]
    exact Kept.setRow hF r (o + 1) (h.setCell hF v)
theorem Blk.farRow {g b : Nat} {T : TypeId} {cs : Array Value} (hne : g ≠ b) : ∀ (vs : List Value) (o : Nat) {w : World}, Blk w g T cs → Blk (w.setCells b o vs) g T cs
  | [], _, _, h => h
  | v :: r, o, w, h => by
    rw [World.setCells]
    exact Blk.farRow hne r (o + 1) (h.far hne v)
theorem Blk.storeT {w : World} {p : Nat} {T : TypeId} (h : Blk w p T zT) (t : Ty) (v : Value) : Blk (w.setCells p 0 (tyVals t v).toList) p T (tyVals t v) :=
  (((((((h.set_ 0 (.int .i64 t.kind)).set_ 1 (nV t.name)).set_ 2 (.int .i64 t.size)).set_ 3 (.bool t.signed)).set_ 4 (.int .i64 t.to)).set_ 5 (.int .i64 t.count)).set_ 6 v)
theorem Blk.thereT {w : World} {p : Nat} {T : TypeId} (h : Blk w p T zT) : w.there p 0 7 := fun j hj => by
  refine ⟨?_, h.frozen _⟩
  rw [h.cell]
  simp
  omega

set_option maxHeartbeats 4000000 in
set_option maxRecDepth 100000 in
theorem same_yes (l : List Ty) (a1 a2 : Option Addr) (d1 d2 : Nat) (w : World) (h1 : Tys w (.slice a1 l.length d1) l) (h2 : Tys w (.slice a2 l.length d2) l) (hl : l.length ≤ maxLen) (hlm : ∀ t ∈ l, t.mem.length ≤ maxLen) :
    Calls Tryd.prog 21 #[.slice a1 l.length d1, .slice a2 l.length d2] w fun e w' => e = .returned (.bool true) ∧ Kept (fun _ => False) w w' := by
  unfold maxLen at hl
  go_enter Tryd.func21, Tryd.ntmps21
  go_wp2_with fail
  go_loopw [5] (fun iv wr => ∃ i : Nat, iv = .int .i64 i ∧ i ≤ l.length ∧ Kept (fun _ => False) w wr) (fun iv _ => l.length - (intOf iv).toNat)
  case atStart => exact ⟨0, rfl, by omega, Kept.refl _ _⟩
  case round =>
    obtain ⟨i, rfl, hi, hK⟩ := hrel
    by_cases hlt : i < l.length
    case neg =>
      obtain rfl : i = l.length := by omega
      go_wp2_with fail
      go_ret
      exact ⟨rfl, hK⟩
    case pos =>
    obtain ⟨t, ht⟩ : ∃ t, l[i]? = some t := ⟨_, List.getElem?_eq_getElem hlt⟩
    have hml := hlm t (List.mem_of_getElem? ht)
    unfold maxLen at hml
    obtain ⟨g1, o1, mv1, rfl, hg1, hm1, hr1⟩ := tys_range (h1.kept hK) ht
    obtain ⟨g2, o2, mv2, rfl, hg2, hm2, hr2⟩ := tys_range (h2.kept hK) ht
    obtain ⟨ma1, mc1, rfl⟩ := hm1.any
    obtain ⟨ma2, mc2, rfl⟩ := hm2.any
    obtain ⟨W1, rfl⟩ : ∃ W1 : World, W1 = wr := ⟨_, rfl⟩
    clear ht
    go_upto_region 6 with fail
    go_cut [6, 7] (fun sv tv wx => ∃ p q : Nat, sv = .pointer (some ⟨p, 0, none⟩) ∧ tv = .pointer (some ⟨q, 0, none⟩) ∧ Blk wx p 38 (tyVals t (.slice ma1 t.mem.length mc1)) ∧ Blk wx q 38 (tyVals t (.slice ma2 t.mem.length mc2)) ∧ Kept (fun _ => False) W1 wx)
    case first =>
      as_aux_lemma =>
      have hC0 : W1.drew.rangeAt g1 (o1 + i * 7) (rowV t (.slice ma1 t.mem.length mc1)) ∧ W1.drew.rangeAt g2 (o2 + i * 7) (rowV t (.slice ma2 t.mem.length mc2)) := ⟨(Kept.refl (fun _ => False) W1).drew.range hg1 hr1, (Kept.refl (fun _ => False) W1).drew.range hg2 hr2⟩
      refine wp_region_tree [.w, .w, .w, .l, .w, .w, .w, .l, .k, .k, .k, .k] (fun w' => w'.rangeAt g1 (o1 + i * 7) (rowV t (.slice ma1 t.mem.length mc1)) ∧ w'.rangeAt g2 (o2 + i * 7) (rowV t (.slice ma2 t.mem.length mc2))) [true, true, true, true, true, true, true, true, true, true, true, true] (by kernel_rfl) (by kernel_rfl) (by kernel_rfl) ?_
      refine tree_fork2 [false, false, false, false, false, false, false, false, true, false, false, false] [true, true, true, true, true, true, true, true, false, true, true, true] [false, false, false, false, false, false, false, false, false, true, false, false] [true, true, true, true, true, true, true, true, true, false, true, true] (by kernel_rfl) ?_ ?_
      · simp only [keep]
        refine mix_k hC0 fun Q' hQ' => ?_
        go_wp2_with fail
        have hk1 : Kept (fun _ => False) W1 (W1.alloc (.cells zT 38)).drew := ((Kept.refl _ W1).alloc _).drew
        have hC1 := And.intro (hk1.range hg1 hr1) (hk1.range hg2 hr2)
        refine hQ' _ _ hC1 ?_
        clear hQ' Q'
        refine mix_done ?_
        try simp only [Act.put, List.setIfInBounds_toArray, List.set_cons_succ, List.set_cons_zero]
        refine tree_fork1 [false, false, false, false, false, false, false, false, false, true, false, false] [true, true, true, true, true, true, true, true, false, false, true, true] (by kernel_rfl) ?_
        simp only [keep]
        refine mix_k hC1 fun Q' hQ' => ?_
        go_wp2_with fail
        have hk2 : Kept (fun _ => False) W1 ((W1.alloc (.cells zT 38)).alloc (.cells zT 38)).drew := (((Kept.refl _ W1).alloc _).alloc _).drew
        have hBa : Blk ((W1.alloc (.cells zT 38)).alloc (.cells zT 38)).drew W1.heap.size 38 zT := ((Blk.new W1 38 zT).alloc _).drew
        have hBb : Blk ((W1.alloc (.cells zT 38)).alloc (.cells zT 38)).drew (W1.heap.size + 1) 38 zT := by
          have h := (Blk.new (W1.alloc (.cells zT 38)) 38 zT).drew
          simpa using h
        have hC2 := And.intro (hk2.range hg1 hr1) (hk2.range hg2 hr2)
        refine hQ' _ _ hC2 ?_
        clear hQ' Q' hC1 hC0
        refine mix_done ?_
        try simp only [Act.put, List.setIfInBounds_toArray, List.set_cons_succ, List.set_cons_zero]
        generalize ((W1.alloc (.cells zT 38)).alloc (.cells zT 38)).drew = wB at *
        refine tree_fork1 [true, true, true, true, false, false, false, false, false, false, true, false] [false, false, false, false, true, true, true, true, false, false, false, true] (by kernel_rfl) ?_
        simp only [keep]
        repeat (refine mix_w1 ?_; go_big_quiet_step (fail); refine wpQuiet_nil ?_)
        refine mix_loadT hC2 rfl (.tmp 22) rfl g1 (o1 + i * 7) t (.slice ma1 t.mem.length mc1) rfl (fun _ h => h.1) ?_
        try simp only [Act.put, List.setIfInBounds_toArray, List.set_cons_succ, List.set_cons_zero]
        refine mix_k hC2 fun Q' hQ' => ?_
        have hk3 := Kept.setRow (b := W1.heap.size) (fun h => by omega) (tyVals t (.slice ma1 t.mem.length mc1)).toList 0 hk2
        have hC3 := And.intro (hk3.range hg1 hr1) (hk3.range hg2 hr2)
        refine wpList_store_mid rfl 38 (.tmp 6) (.tmp 23) rfl (W1.heap.size) 0 (tyVals t (.slice ma1 t.mem.length mc1)) rfl rfl hBa.thereT infoT7 (by simp [Value.oneCell']) ?_
        refine hQ' _ _ hC3 ?_
        clear hQ' Q'
        refine mix_done ?_
        have hBp := hBa.storeT t (.slice ma1 t.mem.length mc1)
        have hBq := Blk.farRow (b := W1.heap.size) (by omega) (tyVals t (.slice ma1 t.mem.length mc1)).toList 0 hBb
        clear hC2 hk2 hBa hBb
        generalize wB.setCells (W1.heap.size) 0 (tyVals t (.slice ma1 t.mem.length mc1)).toList = wC at *
        try simp only [Act.put, List.setIfInBounds_toArray, List.set_cons_succ, List.set_cons_zero]
        refine tree_fork1 [false, false, false, false, true, true, true, true, false, false, false, true] [false, false, false, false, false, false, false, false, false, false, false, false] (by kernel_rfl) ?_
        simp only [keep]
        repeat (refine mix_w1 ?_; go_big_quiet_step (fail); refine wpQuiet_nil ?_)
        refine mix_loadT hC3 rfl (.tmp 26) rfl g2 (o2 + i * 7) t (.slice ma2 t.mem.length mc2) rfl (fun _ h => h.2) ?_
        try simp only [Act.put, List.setIfInBounds_toArray, List.set_cons_succ, List.set_cons_zero]
        refine mix_k hC3 fun Q' hQ' => ?_
        have hk4 := Kept.setRow (b := W1.heap.size + 1) (fun h => by omega) (tyVals t (.slice ma2 t.mem.length mc2)).toList 0 hk3
        have hC4 := And.intro (hk4.range hg1 hr1) (hk4.range hg2 hr2)
        refine wpList_store_mid rfl 38 (.tmp 7) (.tmp 27) rfl (W1.heap.size + 1) 0 (tyVals t (.slice ma2 t.mem.length mc2)) rfl rfl hBq.thereT infoT7 (by simp [Value.oneCell']) ?_
        refine hQ' _ _ hC4 ?_
        clear hQ' Q'
        refine mix_done ?_
        have hBq2 := hBq.storeT t (.slice ma2 t.mem.length mc2)
        have hBp2 := Blk.farRow (b := W1.heap.size + 1) (by omega) (tyVals t (.slice ma2 t.mem.length mc2)).toList 0 hBp
        clear hC3 hk3 hBp hBq hC4
        generalize wC.setCells (W1.heap.size + 1) 0 (tyVals t (.slice ma2 t.mem.length mc2)).toList = wD at *
        try simp only [Act.put, List.setIfInBounds_toArray, List.set_cons_succ, List.set_cons_zero]
        refine tree_last (by kernel_rfl) ?_
        simp only [keep]
        refine mix_done ?_
        go_wp2_with fail
        go_meet
        exact ⟨_, _, rfl, rfl, hBp2, hBq2, hk4⟩
      · simp only [keep]
        refine mix_k hC0 fun Q' hQ' => ?_
        go_wp2_with fail
        have hk1 : Kept (fun _ => False) W1 (W1.alloc (.cells zT 38)).drew := ((Kept.refl _ W1).alloc _).drew
        have hC1 := And.intro (hk1.range hg1 hr1) (hk1.range hg2 hr2)
        refine hQ' _ _ hC1 ?_
        clear hQ' Q'
        refine mix_done ?_
        try simp only [Act.put, List.setIfInBounds_toArray, List.set_cons_succ, List.set_cons_zero]
        refine tree_fork1 [false, false, false, false, false, false, false, false, true, false, false, false] [true, true, true, true, true, true, true, true, false, false, true, true] (by kernel_rfl) ?_
        simp only [keep]
        refine mix_k hC1 fun Q' hQ' => ?_
        go_wp2_with fail
        have hk2 : Kept (fun _ => False) W1 ((W1.alloc (.cells zT 38)).alloc (.cells zT 38)).drew := (((Kept.refl _ W1).alloc _).alloc _).drew
        have hBa : Blk ((W1.alloc (.cells zT 38)).alloc (.cells zT 38)).drew W1.heap.size 38 zT := ((Blk.new W1 38 zT).alloc _).drew
        have hBb : Blk ((W1.alloc (.cells zT 38)).alloc (.cells zT 38)).drew (W1.heap.size + 1) 38 zT := by
          have h := (Blk.new (W1.alloc (.cells zT 38)) 38 zT).drew
          simpa using h
        have hC2 := And.intro (hk2.range hg1 hr1) (hk2.range hg2 hr2)
        refine hQ' _ _ hC2 ?_
        clear hQ' Q' hC1 hC0
        refine mix_done ?_
        try simp only [Act.put, List.setIfInBounds_toArray, List.set_cons_succ, List.set_cons_zero]
        generalize ((W1.alloc (.cells zT 38)).alloc (.cells zT 38)).drew = wB at *
        refine tree_fork1 [true, true, true, true, false, false, false, false, false, false, true, false] [false, false, false, false, true, true, true, true, false, false, false, true] (by kernel_rfl) ?_
        simp only [keep]
        repeat (refine mix_w1 ?_; go_big_quiet_step (fail); refine wpQuiet_nil ?_)
        refine mix_loadT hC2 rfl (.tmp 22) rfl g1 (o1 + i * 7) t (.slice ma1 t.mem.length mc1) rfl (fun _ h => h.1) ?_
        try simp only [Act.put, List.setIfInBounds_toArray, List.set_cons_succ, List.set_cons_zero]
        refine mix_k hC2 fun Q' hQ' => ?_
        have hk3 := Kept.setRow (b := W1.heap.size + 1) (fun h => by omega) (tyVals t (.slice ma1 t.mem.length mc1)).toList 0 hk2
        have hC3 := And.intro (hk3.range hg1 hr1) (hk3.range hg2 hr2)
        refine wpList_store_mid rfl 38 (.tmp 6) (.tmp 23) rfl (W1.heap.size + 1) 0 (tyVals t (.slice ma1 t.mem.length mc1)) rfl rfl hBb.thereT infoT7 (by simp [Value.oneCell']) ?_
        refine hQ' _ _ hC3 ?_
        clear hQ' Q'
        refine mix_done ?_
        have hBp := hBb.storeT t (.slice ma1 t.mem.length mc1)
        have hBq := Blk.farRow (b := W1.heap.size + 1) (by omega) (tyVals t (.slice ma1 t.mem.length mc1)).toList 0 hBa
        clear hC2 hk2 hBa hBb
        generalize wB.setCells (W1.heap.size + 1) 0 (tyVals t (.slice ma1 t.mem.length mc1)).toList = wC at *
        try simp only [Act.put, List.setIfInBounds_toArray, List.set_cons_succ, List.set_cons_zero]
        refine tree_fork1 [false, false, false, false, true, true, true, true, false, false, false, true] [false, false, false, false, false, false, false, false, false, false, false, false] (by kernel_rfl) ?_
        simp only [keep]
        repeat (refine mix_w1 ?_; go_big_quiet_step (fail); refine wpQuiet_nil ?_)
        refine mix_loadT hC3 rfl (.tmp 26) rfl g2 (o2 + i * 7) t (.slice ma2 t.mem.length mc2) rfl (fun _ h => h.2) ?_
        try simp only [Act.put, List.setIfInBounds_toArray, List.set_cons_succ, List.set_cons_zero]
        refine mix_k hC3 fun Q' hQ' => ?_
        have hk4 := Kept.setRow (b := W1.heap.size) (fun h => by omega) (tyVals t (.slice ma2 t.mem.length mc2)).toList 0 hk3
        have hC4 := And.intro (hk4.range hg1 hr1) (hk4.range hg2 hr2)
        refine wpList_store_mid rfl 38 (.tmp 7) (.tmp 27) rfl (W1.heap.size) 0 (tyVals t (.slice ma2 t.mem.length mc2)) rfl rfl hBq.thereT infoT7 (by simp [Value.oneCell']) ?_
        refine hQ' _ _ hC4 ?_
        clear hQ' Q'
        refine mix_done ?_
        have hBq2 := hBq.storeT t (.slice ma2 t.mem.length mc2)
        have hBp2 := Blk.farRow (b := W1.heap.size) (by omega) (tyVals t (.slice ma2 t.mem.length mc2)).toList 0 hBp
        clear hC3 hk3 hBp hBq hC4
        generalize wC.setCells (W1.heap.size) 0 (tyVals t (.slice ma2 t.mem.length mc2)).toList = wD at *
        try simp only [Act.put, List.setIfInBounds_toArray, List.set_cons_succ, List.set_cons_zero]
        refine tree_last (by kernel_rfl) ?_
        simp only [keep]
        refine mix_done ?_
        go_wp2_with fail
        go_meet
        exact ⟨_, _, rfl, rfl, hBp2, hBq2, hk4⟩
    case rest =>
    obtain ⟨p, q, rfl, rfl, hBp, hBq, hk⟩ := hcut
    have x0 := hBp.cell 0
    have y0 := hBq.cell 0
    have x1 := hBp.cell 1
    have y1 := hBq.cell 1
    have x2 := hBp.cell 2
    have y2 := hBq.cell 2
    have x3 := hBp.cell 3
    have y3 := hBq.cell 3
    have x4 := hBp.cell 4
    have y4 := hBq.cell 4
    have x5 := hBp.cell 5
    have y5 := hBq.cell 5
    have x6 := hBp.cell 6
    have y6 := hBq.cell 6
    have hK2 := hK.trans hk (fun _ _ h => h)
    go_wp2_with fail
    obtain ⟨W2, rfl⟩ : ∃ W2 : World, W2 = wc := ⟨_, rfl⟩
    go_loopw [8] (fun kv wr => ∃ k : Nat, kv = .int .i64 k ∧ k ≤ t.mem.length ∧ Kept (fun _ => False) W2 wr) (fun kv _ => t.mem.length - (intOf kv).toNat)
    case atStart => exact ⟨0, rfl, by omega, Kept.refl _ _⟩
    case round =>
      obtain ⟨k, rfl, hkl, hk5⟩ := hrel
      have hz6 := (hk5.blk (fun h => h) hBp).cell 6
      have hy6 := (hk5.blk (fun h => h) hBq).cell 6
      by_cases hkt : k < t.mem.length
      case neg =>
        obtain rfl : k = t.mem.length := by omega
        go_wp2_with fail
        go_roundw
        case rel => exact ⟨i + 1, by go_num, by omega, hK2.trans hk5 (fun _ _ h => h)⟩
        case measure => simp [intOf]; omega
      case pos =>
      obtain ⟨m, hm⟩ : ∃ m, t.mem[k]? = some m := ⟨_, List.getElem?_eq_getElem hkt⟩
      obtain ⟨u1, v1, rfl, hu1, n10, n11, n12⟩ := (hm1.kept (hk.trans hk5 (fun _ _ h => h))).at_ hm
      obtain ⟨u2, v2, rfl, hu2, n20, n21, n22⟩ := (hm2.kept (hk.trans hk5 (fun _ _ h => h))).at_ hm
      clear hm
      go_wp2_with fail
      refine wp_region_mix0 [.w, .l, .w, .w, .l, .w, .l, .w, .w, .l, .w] (by kernel_rfl) (by kernel_rfl) ?_
      repeat (first
        | (refine mix_w1 ?_; go_big_quiet_step (fail); refine wpQuiet_nil ?_)
        | (refine mix_l1 rfl ?_; go_big_quiet_step (fail); refine wpQuiet_nil ?_))
      refine mix_done ?_
      go_wp2_with fail
      go_roundw
      case rel => exact ⟨k + 1, by go_num, by omega, hk5.drew⟩
      case measure => simp [intOf]; omega

end Go.Proofs.YtmgdjiplpfeoiaaDoor
set_option linter.unusedSimpArgs false
set_option linter.unusedVariables false
namespace Go.Proofs.YtmgdjiplpfeoiaaDoor
open Go.RowKit

/-! ### the document's Encode -/
/-- bytes that are being made, apart from a copy of a type -/
structure ST (w W : World) (T : Nat) (cs : Array Value) (v : Value) (X : List UInt8) : Prop where
  o : OB w.heap.size W v X
  ne : ∀ g, v.ownBlock = some g → g ≠ T
  b : Blk W T 38 cs
  k : Kept (fun _ => False) w W
section
variable {w W W' : World} {T : Nat} {cs : Array Value} {v v' : Value} {X X' : List UInt8}
theorem ST.next (h : ST w W T cs v X) (ho : OB w.heap.size W' v' X') (hk : Kept (fun k => v.ownBlock = some k) W W') (hw : ∀ g, v'.ownBlock = some g → v.ownBlock = some g ∨ W.heap.size ≤ g) : ST w W' T cs v' X' :=
  ⟨ho, fun g e => (hw g e).elim (h.ne g) (fun h2 => by have := h.b.lt; omega), hk.blk (fun e => h.ne _ e rfl) h.b, h.o.step h.k hk⟩
theorem ST.quiet (h : ST w W T cs v X) (hk : Kept (fun _ => False) W W') : ST w W' T cs v X := ⟨h.o.quiet hk, h.ne, hk.blk (fun h => h) h.b, h.k.trans hk (fun _ _ h => h)⟩
theorem ST.drew (h : ST w W T cs v X) : ST w W.drew T cs v X := h.quiet (Kept.refl _ W).drew
theorem ST.size (h : ST w W T cs v X) : w.heap.size ≤ W.heap.size := h.k.size
end
theorem naMems : ∀ w, (isAgg 36).run Tryd.prog w = .ok false w := fun w => by kernel_rfl

set_option maxHeartbeats 4000000 in
set_option maxRecDepth 100000 in
theorem refencode_any (l : List Ty) (a : Option Addr) (c : Nat) (w : World) (h : Tys w (.slice a l.length c) l) (hr : Raw l) :
    Calls Tryd.prog 17 #[.slice a l.length c] w fun e w' => ∃ ov, e = .returned (.tuple #[ov, .int .i64 (checkL l).2]) ∧ OB w.heap.size w' ov (encB l) ∧ Kept (fun _ => False) w w' := by
  obtain ⟨i0, hI0, hI1, hI2, hI3⟩ := info_parts infoU8
  have hCH := Lib.hid (refcheck_any l a c w h hr)
  by_cases h0 : (checkL l).2 = 0
  case neg =>
    have hE : encB l = [] := by unfold encB; rw [if_neg h0]
    generalize (checkL l).2 = ee at *
    generalize (checkL l).1 = ss at *
    have he2 : (ee != 0) = true := by simpa using h0
    have he : (ee == 0) = false := by simpa using h0
    clear h0
    go_enter Tryd.func17, Tryd.ntmps17
    go_wp2_with fail
    refine hCH.out.mono ?_
    rintro e w1 ⟨rfl, hk1⟩
    go_wp2_with fail
    go_ret2
    exact ⟨_, rfl, by rw [hE]; exact OB.nil _ _, hk1⟩
  case pos =>
    have hg := (good_of hr h0).1
    have hE : encB l = listB l := by unfold encB; rw [if_pos h0]
    have HE := Lib.hid hE
    rw [h0] at hCH
    rw [h0]
    clear hE h0
    generalize (checkL l).1 = ss at *
    have h256 := hg.fit.len
    go_enter Tryd.func17, Tryd.ntmps17
    go_wp2_with fail
    refine hCH.out.mono ?_
    rintro e w1 ⟨rfl, hk1⟩
    go_wp2_with fail
    refine (four_any w.heap.size _ [] l.length w1 (OB.nil _ _) (by simp) hk1.size).mono ?_
    rintro e w2 ⟨nv, rfl, hN, hk2, hw2⟩
    have hK2 : Kept (fun _ => False) w w2 := hk1.trans hk2 (fun k _ e => by simp [Value.ownBlock] at e)
    rw [List.nil_append] at hN
    clear hk1 hk2 hw2
    go_wp2_with fail
    obtain ⟨W2, rfl⟩ : ∃ W2 : World, W2 = w2 := ⟨_, rfl⟩
    go_loopw [6, 7] (fun ov iv wr => ∃ k : Nat, iv = .int .i64 k ∧ k ≤ l.length ∧ OB w.heap.size wr ov (b4 l.length ++ ((l.take k).map tyB).flatten) ∧ Kept (fun _ => False) w wr) (fun _ iv _ => l.length - (intOf iv).toNat)
    case atStart => exact ⟨0, rfl, by omega, by simpa using hN, hK2⟩
    case round =>
      clear hN hK2
      obtain ⟨k, rfl, hk, hO, hK⟩ := hrel
      by_cases hlt : k < l.length
      case neg =>
        obtain rfl : k = l.length := by omega
        rw [List.take_length] at hO
        go_wp2_with fail
        go_ret2
        exact ⟨_, rfl, by rw [HE.out]; exact hO, hK⟩
      case pos =>
      obtain ⟨W1, rfl⟩ : ∃ W1 : World, W1 = wr := ⟨_, rfl⟩
      obtain ⟨t, ht⟩ : ∃ t, l[k]? = some t := ⟨_, List.getElem?_eq_getElem hlt⟩
      have hln : (b4 l.length ++ ((l.take k).map tyB).flatten).length ≤ 1000000 := by
        have h1 := hg.flat_len k (by omega)
        rw [List.length_append, b4_len]
        omega
      have hnx : (b4 l.length ++ ((l.take k).map tyB).flatten) ++ tyB t = b4 l.length ++ ((l.take (k + 1)).map tyB).flatten := by rw [take_tyB ht, List.append_assoc]
      obtain ⟨hs1, hs2⟩ := alone_short (hg.alone k t ht)
      have h64 := hg.fit.mem t (List.mem_of_getElem? ht)
      generalize b4 l.length ++ ((l.take k).map tyB).flatten = X at *
      have HNX := Lib.hid hnx
      clear hnx
      obtain ⟨g, o, mv, rfl, hgl, hm, b0, b1, b2, b3, b4', b5, b6⟩ := h.at_ ht
      obtain ⟨ma, mc, rfl⟩ := hm.any
      have c0 := (hK.cell (p := ⟨g, o + k * 7, none⟩) hgl (fun h => h)).trans b0
      have c1 := (hK.cell (p := ⟨g, o + k * 7 + 1, none⟩) hgl (fun h => h)).trans b1
      have c2 := (hK.cell (p := ⟨g, o + k * 7 + 2, none⟩) hgl (fun h => h)).trans b2
      have c3 := (hK.cell (p := ⟨g, o + k * 7 + 3, none⟩) hgl (fun h => h)).trans b3
      have c4 := (hK.cell (p := ⟨g, o + k * 7 + 4, none⟩) hgl (fun h => h)).trans b4'
      have c5 := (hK.cell (p := ⟨g, o + k * 7 + 5, none⟩) hgl (fun h => h)).trans b5
      have c6 := (hK.cell (p := ⟨g, o + k * 7 + 6, none⟩) hgl (fun h => h)).trans b6
      clear b0 b1 b2 b3 b4' b5 b6
      have hkA : Kept (fun _ => False) W1 (W1.alloc (.cells (tyVals t (.slice ma t.mem.length mc)) 38)) := (Kept.refl _ W1).alloc _
      have hS0 : ST w (W1.alloc (.cells (tyVals t (.slice ma t.mem.length mc)) 38)) W1.heap.size (tyVals t (.slice ma t.mem.length mc)) u6 X :=
        ⟨hO.quiet hkA, fun g e => by have := hO.lt g e; omega, Blk.new W1 38 (tyVals t (.slice ma t.mem.length mc)), hK.trans hkA (fun _ _ h => h)⟩
      clear ht
      go_upto_region 9 with fail
      generalize W1.alloc (.cells (tyVals t (.slice ma t.mem.length mc)) 38) = wa at *
      have hlx : X.length ≤ 1000000 := hln
      go_cut [6] (fun ov wx => ST w wx W1.heap.size (tyVals t (.slice ma t.mem.length mc)) ov (X ++ [lowB t.kind] ++ nmB t.name))
      case first =>
        as_aux_lemma =>
        have hd := hS0.drew
        have hC0 : wa.drew.cell? ⟨W1.heap.size, 0, none⟩ = some (.int .i64 t.kind) ∧ wa.drew.cell? ⟨W1.heap.size, 1, none⟩ = some (nV t.name) := ⟨hd.b.cell 0, hd.b.cell 1⟩
        refine wp_region_mix [.w, .w, .l, .w, .k, .k, .w, .l, .t, .w] (by kernel_rfl) (by kernel_rfl) (fun w' => w'.cell? ⟨W1.heap.size, 0, none⟩ = some (.int .i64 t.kind) ∧ w'.cell? ⟨W1.heap.size, 1, none⟩ = some (nV t.name)) ?_
        repeat (refine mix_w1 ?_; go_big_quiet_step (fail); refine wpQuiet_nil ?_)
        refine mix_load1 hC0 rfl 3 (.tmp 32) rfl naInt ⟨W1.heap.size, 0, none⟩ _ rfl (fun _ h => h.1) ?_
        try simp only [Act.put, List.setIfInBounds_toArray, List.set_cons_succ, List.set_cons_zero]
        repeat (refine mix_w1 ?_; go_big_quiet_step (fail); refine wpQuiet_nil ?_)
        refine mix_k hC0 fun Q' hQ' => ?_
        go_wp2_with fail
        have hC1 : (wa.drew.alloc (.cells #[.int .u8 (t.kind % 256)] 5)).cell? ⟨W1.heap.size, 0, none⟩ = some (.int .i64 t.kind) ∧ (wa.drew.alloc (.cells #[.int .u8 (t.kind % 256)] 5)).cell? ⟨W1.heap.size, 1, none⟩ = some (nV t.name) := ⟨(hd.b.alloc _).cell 0, (hd.b.alloc _).cell 1⟩
        refine hQ' _ _ hC1 ?_
        clear hQ' Q'
        try simp only [Act.put, List.setIfInBounds_toArray, List.set_cons_succ, List.set_cons_zero]
        refine mix_k hC1 fun Q' hQ' => ?_
        refine wpList_obNew (w := wa.drew) rfl (.tmp 31) (.tmp 35) 35 rfl Tryd.underlying35 hI0 hI1 hI2 hI3 rfl w.heap.size _ X [lowB t.kind] _ (by rw [(u8_cell t.kind []).2]) 1 rfl rfl rfl hd.o (by simp; omega) hd.size ?_
        intro v2 w2 hO2 hk2 hw2
        have hS2 := hd.next hO2 hk2 hw2
        have hC2 : w2.cell? ⟨W1.heap.size, 0, none⟩ = some (.int .i64 t.kind) ∧ w2.cell? ⟨W1.heap.size, 1, none⟩ = some (nV t.name) := ⟨hS2.b.cell 0, hS2.b.cell 1⟩
        refine hQ' _ _ hC2 ?_
        clear hQ' Q'
        try simp only [Act.put, List.setIfInBounds_toArray, List.set_cons_succ, List.set_cons_zero]
        repeat (refine mix_w1 ?_; go_big_quiet_step (fail); refine wpQuiet_nil ?_)
        refine mix_load1 hC2 rfl 9 (.tmp 37) rfl naStr ⟨W1.heap.size, 1, none⟩ _ rfl (fun _ h => h.2) ?_
        try simp only [Act.put, List.setIfInBounds_toArray, List.set_cons_succ, List.set_cons_zero]
        refine mix_t fun Q' hQ' => ?_
        go_wp2_with fail
        refine (refnameBy_any w.heap.size _ (X ++ [lowB t.kind]) t.name w2 hS2.o (by simp; omega) hS2.size).mono ?_
        rintro e w3 ⟨v3, rfl, hO3, hk3, hw3⟩
        have hS3 := hS2.next hO3 hk3 hw3
        go_wp2_with fail
        repeat (refine mix_w1 ?_; go_big_quiet_step (fail); refine wpQuiet_nil ?_)
        refine mix_done ?_
        go_wp2_with fail
        go_meet
        exact hS3
      case rest =>
      have hl1 : (X ++ [lowB t.kind] ++ nmB t.name).length ≤ 1000100 := by simp [nmB]; omega
      have hX1 : X ++ hdB t = X ++ [lowB t.kind] ++ nmB t.name ++ b4 t.size ++ [if t.signed = true then 1 else 0] := by simp [hdB]
      generalize X ++ [lowB t.kind] ++ nmB t.name = X1 at *
      clear hS0 c0 c1 c2 c3 c4 c5 c6 hO hkA
      have hS1 := hcut
      clear hcut
      have q2 := hS1.b.cell 2
      go_upto_region 10 with fail
      go_cut [6] (fun ov wx => ST w wx W1.heap.size (tyVals t (.slice ma t.mem.length mc)) ov (X1 ++ b4 t.size))
      case first =>
        as_aux_lemma =>
        go_wp2_with fail
        refine (four_any w.heap.size _ X1 t.size wc hS1.o (by omega) hS1.size).mono ?_
        rintro e w3 ⟨v3, rfl, hO3, hk3, hw3⟩
        have hS3 := hS1.next hO3 hk3 hw3
        go_wp2_with fail
        go_meet
        exact hS3
      case rest =>
      clear q2
      clear hS1
      have hS2 := hcut
      clear hcut
      have hl2 : (X1 ++ b4 t.size).length ≤ 1000200 := by simp [b4_len]; omega
      generalize X1 ++ b4 t.size = X2 at *
      have q3 : wc.cell? ⟨W1.heap.size, 3, none⟩ = some (.bool t.signed) := hS2.b.cell 3
      go_upto_if 45 with fail
      go_cut [6] (fun ov wx => ST w wx W1.heap.size (tyVals t (.slice ma t.mem.length mc)) ov (X2 ++ [if t.signed = true then 1 else 0]))
      case first =>
        as_aux_lemma =>
        cases hsg : t.signed
        all_goals
          rw [hsg] at q3
        · go_wp2_with (at_builtin; refine wpList_obNew (w := wc) rfl (.tmp 49) (.tmp 50) 35 rfl Tryd.underlying35 hI0 hI1 hI2 hI3 rfl w.heap.size _ X2 [0] _ (by rfl) 1 (by rfl) rfl rfl hS2.o (by simp; omega) hS2.size ?_; intro v5 w5 hO5 hk5 hw5; have hS5 := hS2.next hO5 hk5 hw5)
          go_meet
          rw [show (if t.signed = true then (1 : UInt8) else 0) = 0 by rw [hsg]; rfl]
          exact hS5
        · go_wp2_with (at_builtin; refine wpList_obNew (w := wc) rfl (.tmp 46) (.tmp 47) 35 rfl Tryd.underlying35 hI0 hI1 hI2 hI3 rfl w.heap.size _ X2 [1] _ (by rfl) 1 (by rfl) rfl rfl hS2.o (by simp; omega) hS2.size ?_; intro v5 w5 hO5 hk5 hw5; have hS5 := hS2.next hO5 hk5 hw5)
          go_meet
          rw [show (if t.signed = true then (1 : UInt8) else 0) = 1 by rw [hsg]; rfl]
          exact hS5
      case rest =>
      clear q3 hS2
      have hS3 := hcut
      clear hcut
      have hl3 : (X2 ++ [if t.signed = true then 1 else 0]).length ≤ 1000300 := by simp; omega
      have hX3 : X ++ hdB t ++ n3B t = X2 ++ [if t.signed = true then 1 else 0] ++ b4 t.to ++ b4 t.count ++ b4 t.mem.length := by rw [hX1]; simp [n3B]
      clear hX1
      generalize X2 ++ [if t.signed = true then (1 : UInt8) else 0] = X3 at *
      go_upto_region 14 with fail
      go_cut [6] (fun ov wx => ST w wx W1.heap.size (tyVals t (.slice ma t.mem.length mc)) ov (X3 ++ b4 t.to ++ b4 t.count ++ b4 t.mem.length))
      case first =>
        as_aux_lemma =>
        have hd := hS3.drew
        have hC0 : wc.drew.cell? ⟨W1.heap.size, 4, none⟩ = some (.int .i64 t.to) ∧ wc.drew.cell? ⟨W1.heap.size, 5, none⟩ = some (.int .i64 t.count) ∧ wc.drew.cell? ⟨W1.heap.size, 6, none⟩ = some (.slice ma t.mem.length mc) := ⟨hd.b.cell 4, hd.b.cell 5, hd.b.cell 6⟩
        refine wp_region_mix [.w, .w, .l, .k, .w, .l, .k, .w, .l, .w, .t, .w] (by kernel_rfl) (by kernel_rfl) (fun w' => w'.cell? ⟨W1.heap.size, 4, none⟩ = some (.int .i64 t.to) ∧ w'.cell? ⟨W1.heap.size, 5, none⟩ = some (.int .i64 t.count) ∧ w'.cell? ⟨W1.heap.size, 6, none⟩ = some (.slice ma t.mem.length mc)) ?_
        repeat (refine mix_w1 ?_; go_big_quiet_step (fail); refine wpQuiet_nil ?_)
        refine mix_load1 hC0 rfl 3 (.tmp 53) rfl naInt ⟨W1.heap.size, 4, none⟩ _ rfl (fun _ h => h.1) ?_
        try simp only [Act.put, List.setIfInBounds_toArray, List.set_cons_succ, List.set_cons_zero]
        repeat (refine mix_w1 ?_; go_big_quiet_step (fail); refine wpQuiet_nil ?_)
        refine mix_k hC0 fun Q' hQ' => ?_
        go_wp2_with fail
        refine (four_any w.heap.size _ X3 t.to wc.drew hd.o (by (try simp [b4_len]); omega) hd.size).mono ?_
        rintro e wf1 ⟨vf1, rfl, hOf1, hkf1, hwf1⟩
        have hT1 := hd.next hOf1 hkf1 hwf1
        have hD1 : wf1.cell? ⟨W1.heap.size, 4, none⟩ = some (.int .i64 t.to) ∧ wf1.cell? ⟨W1.heap.size, 5, none⟩ = some (.int .i64 t.count) ∧ wf1.cell? ⟨W1.heap.size, 6, none⟩ = some (.slice ma t.mem.length mc) := ⟨hT1.b.cell 4, hT1.b.cell 5, hT1.b.cell 6⟩
        go_wp2_with fail
        refine hQ' _ _ hD1 ?_
        clear hQ' Q'
        try simp only [Act.put, List.setIfInBounds_toArray, List.set_cons_succ, List.set_cons_zero]
        repeat (refine mix_w1 ?_; go_big_quiet_step (fail); refine wpQuiet_nil ?_)
        refine mix_load1 hD1 rfl 3 (.tmp 56) rfl naInt ⟨W1.heap.size, 5, none⟩ _ rfl (fun _ h => h.2.1) ?_
        try simp only [Act.put, List.setIfInBounds_toArray, List.set_cons_succ, List.set_cons_zero]
        repeat (refine mix_w1 ?_; go_big_quiet_step (fail); refine wpQuiet_nil ?_)
        refine mix_k hD1 fun Q' hQ' => ?_
        go_wp2_with fail
        refine (four_any w.heap.size _ (X3 ++ b4 t.to) t.count wf1 hT1.o (by (try simp [b4_len]); omega) hT1.size).mono ?_
        rintro e wf2 ⟨vf2, rfl, hOf2, hkf2, hwf2⟩
        have hT2 := hT1.next hOf2 hkf2 hwf2
        have hD2 : wf2.cell? ⟨W1.heap.size, 4, none⟩ = some (.int .i64 t.to) ∧ wf2.cell? ⟨W1.heap.size, 5, none⟩ = some (.int .i64 t.count) ∧ wf2.cell? ⟨W1.heap.size, 6, none⟩ = some (.slice ma t.mem.length mc) := ⟨hT2.b.cell 4, hT2.b.cell 5, hT2.b.cell 6⟩
        go_wp2_with fail
        refine hQ' _ _ hD2 ?_
        clear hQ' Q'
        try simp only [Act.put, List.setIfInBounds_toArray, List.set_cons_succ, List.set_cons_zero]
        repeat (refine mix_w1 ?_; go_big_quiet_step (fail); refine wpQuiet_nil ?_)
        refine mix_load1 hD2 rfl 36 (.tmp 59) rfl naMems ⟨W1.heap.size, 6, none⟩ _ rfl (fun _ h => h.2.2) ?_
        try simp only [Act.put, List.setIfInBounds_toArray, List.set_cons_succ, List.set_cons_zero]
        repeat (refine mix_w1 ?_; go_big_quiet_step (fail); refine wpQuiet_nil ?_)
        refine mix_t fun Q' hQ' => ?_
        go_wp2_with fail
        refine (four_any w.heap.size _ (X3 ++ b4 t.to ++ b4 t.count) t.mem.length wf2 hT2.o (by (try simp [b4_len]); omega) hT2.size).mono ?_
        rintro e wf3 ⟨vf3, rfl, hOf3, hkf3, hwf3⟩
        have hT3 := hT2.next hOf3 hkf3 hwf3
        go_wp2_with fail
        try simp only [Act.put, List.setIfInBounds_toArray, List.set_cons_succ, List.set_cons_zero]
        repeat (refine mix_w1 ?_; go_big_quiet_step (fail); refine wpQuiet_nil ?_)
        refine mix_done ?_
        go_wp2_with fail
        go_meet
        exact hT3
      case rest =>
      clear hS3
      have hS4 := hcut
      clear hcut
      have hl4 : (X3 ++ b4 t.to ++ b4 t.count ++ b4 t.mem.length).length ≤ 1000400 := by simp [b4_len]; omega
      generalize X3 ++ b4 t.to ++ b4 t.count ++ b4 t.mem.length = X4 at *
      go_wp2_with fail
      obtain ⟨W4, rfl⟩ : ∃ W4 : World, W4 = wc := ⟨_, rfl⟩
      go_loopw [6, 9] (fun ov iv wx => ∃ j : Nat, iv = .int .i64 j ∧ j ≤ t.mem.length ∧ ST w wx W1.heap.size (tyVals t (.slice ma t.mem.length mc)) ov (X4 ++ ((t.mem.take j).map mbB).flatten)) (fun _ iv _ => t.mem.length - (intOf iv).toNat)
      case atStart => exact ⟨0, rfl, by omega, by simpa using hS4⟩
      case round =>
        clear hS4
        obtain ⟨j, rfl, hj, hS⟩ := hrel
        by_cases hlt2 : j < t.mem.length
        case neg =>
          obtain rfl : j = t.mem.length := by omega
          have hO9 : OB w.heap.size wr u6 (b4 l.length ++ ((l.take (k + 1)).map tyB).flatten) := by
            have := hS.o
            rw [List.take_length, ← hX3] at this
            rw [← HNX.out]
            simpa [tyB] using this
          have hK9 := hS.k
          have q6 : wr.cell? ⟨W1.heap.size, 6, none⟩ = some (.slice ma t.mem.length mc) := hS.b.cell 6
          clear hX3
          go_wp2_with fail
          exact ⟨⟨k + 1, by go_num, by omega, hO9, hK9⟩, by simp [intOf]; omega⟩
        case pos =>
        obtain ⟨m, hmk⟩ : ∃ m, t.mem[j]? = some m := ⟨_, List.getElem?_eq_getElem hlt2⟩
        have hnx : (X4 ++ ((t.mem.take j).map mbB).flatten) ++ mbB m = X4 ++ ((t.mem.take (j + 1)).map mbB).flatten := by rw [take_flat hmk, List.append_assoc]
        have hl5 : (X4 ++ ((t.mem.take j).map mbB).flatten).length ≤ 2000000 := by
          have := flat_len' (l := t.mem.take j) (fun m hm => hs2 m (List.mem_of_mem_take hm))
          rw [List.length_take] at this
          rw [List.length_append]
          omega
        generalize X4 ++ ((t.mem.take j).map mbB).flatten = Y at *
        have HNY := Lib.hid hnx
        have hmn1 := hs2 m (List.mem_of_getElem? hmk)
        obtain ⟨mg, mo, rfl, hmg, m0, m1, m2⟩ := hm.at_ hmk
        clear hnx hmk hX3
        have q6 : wr.cell? ⟨W1.heap.size, 6, none⟩ = some (.slice (some ⟨mg, mo, none⟩) t.mem.length mc) := hS.b.cell 6
        have q0 := (hS.k.cell (p := ⟨mg, mo + j * 3, none⟩) hmg (fun h => h)).trans m0
        have hK9 := hS.k
        go_wp2_with fail
        refine (refnameBy_any w.heap.size _ Y m.name wr hS.o (by omega) hS.size).mono ?_
        rintro e wn ⟨vn, rfl, hOn, hkn, hwn⟩
        have hSn := hS.next hOn hkn hwn
        clear q6 q0
        go_upto_region 19 with fail
        have hd := hSn.drew
        have hC0 : wn.drew.cell? ⟨W1.heap.size, 6, none⟩ = some (.slice (some ⟨mg, mo, none⟩) t.mem.length mc) ∧ wn.drew.cell? ⟨mg, mo + j * 3 + 1, none⟩ = some (.int .i64 m.type) ∧ wn.drew.cell? ⟨mg, mo + j * 3 + 2, none⟩ = some (.int .i64 m.bits) := ⟨hd.b.cell 6, (hd.k.cell (p := ⟨mg, mo + j * 3 + 1, none⟩) hmg (fun h => h)).trans m1, (hd.k.cell (p := ⟨mg, mo + j * 3 + 2, none⟩) hmg (fun h => h)).trans m2⟩
        refine wp_region_mix [.w, .w, .l, .w, .w, .w, .l, .k, .w, .l, .w, .w, .w, .l, .t, .w] (by kernel_rfl) (by kernel_rfl) (fun w' => w'.cell? ⟨W1.heap.size, 6, none⟩ = some (.slice (some ⟨mg, mo, none⟩) t.mem.length mc) ∧ w'.cell? ⟨mg, mo + j * 3 + 1, none⟩ = some (.int .i64 m.type) ∧ w'.cell? ⟨mg, mo + j * 3 + 2, none⟩ = some (.int .i64 m.bits)) ?_
        repeat (refine mix_w1 ?_; go_big_quiet_step (fail); refine wpQuiet_nil ?_)
        refine mix_load1 hC0 rfl 36 (.tmp 79) rfl naMems ⟨W1.heap.size, 6, none⟩ _ rfl (fun _ h => h.1) ?_
        try simp only [Act.put, List.setIfInBounds_toArray, List.set_cons_succ, List.set_cons_zero]
        repeat (refine mix_w1 ?_; go_big_quiet_step (fail); refine wpQuiet_nil ?_)
        refine mix_load1 hC0 rfl 3 (.tmp 83) rfl naInt ⟨mg, mo + j * 3 + 1, none⟩ _ rfl (fun _ h => h.2.1) ?_
        try simp only [Act.put, List.setIfInBounds_toArray, List.set_cons_succ, List.set_cons_zero]
        refine mix_k hC0 fun Q' hQ' => ?_
        go_wp2_with fail
        refine (four_any w.heap.size _ (Y ++ nmB m.name) m.type wn.drew hd.o (by (try simp [b4_len, nmB]); omega) hd.size).mono ?_
        rintro e wf1 ⟨vf1, rfl, hOf1, hkf1, hwf1⟩
        have hT1 := hd.next hOf1 hkf1 hwf1
        have hD1 : wf1.cell? ⟨W1.heap.size, 6, none⟩ = some (.slice (some ⟨mg, mo, none⟩) t.mem.length mc) ∧ wf1.cell? ⟨mg, mo + j * 3 + 1, none⟩ = some (.int .i64 m.type) ∧ wf1.cell? ⟨mg, mo + j * 3 + 2, none⟩ = some (.int .i64 m.bits) := ⟨hT1.b.cell 6, (hT1.k.cell (p := ⟨mg, mo + j * 3 + 1, none⟩) hmg (fun h => h)).trans m1, (hT1.k.cell (p := ⟨mg, mo + j * 3 + 2, none⟩) hmg (fun h => h)).trans m2⟩
        go_wp2_with fail
        refine hQ' _ _ hD1 ?_
        clear hQ' Q'
        try simp only [Act.put, List.setIfInBounds_toArray, List.set_cons_succ, List.set_cons_zero]
        repeat (refine mix_w1 ?_; go_big_quiet_step (fail); refine wpQuiet_nil ?_)
        refine mix_load1 hD1 rfl 36 (.tmp 86) rfl naMems ⟨W1.heap.size, 6, none⟩ _ rfl (fun _ h => h.1) ?_
        try simp only [Act.put, List.setIfInBounds_toArray, List.set_cons_succ, List.set_cons_zero]
        repeat (refine mix_w1 ?_; go_big_quiet_step (fail); refine wpQuiet_nil ?_)
        refine mix_load1 hD1 rfl 3 (.tmp 90) rfl naInt ⟨mg, mo + j * 3 + 2, none⟩ _ rfl (fun _ h => h.2.2) ?_
        try simp only [Act.put, List.setIfInBounds_toArray, List.set_cons_succ, List.set_cons_zero]
        refine mix_t fun Q' hQ' => ?_
        go_wp2_with fail
        refine (four_any w.heap.size _ (Y ++ nmB m.name ++ b4 m.type) m.bits wf1 hT1.o (by (try simp [b4_len, nmB]); omega) hT1.size).mono ?_
        rintro e wf2 ⟨vf2, rfl, hOf2, hkf2, hwf2⟩
        have hT2 := hT1.next hOf2 hkf2 hwf2
        go_wp2_with fail
        try simp only [Act.put, List.setIfInBounds_toArray, List.set_cons_succ, List.set_cons_zero]
        repeat (refine mix_w1 ?_; go_big_quiet_step (fail); refine wpQuiet_nil ?_)
        refine mix_done ?_
        have hS9 : ST w wf2 W1.heap.size (tyVals t (.slice (some ⟨mg, mo, none⟩) t.mem.length mc)) vf2 (X4 ++ ((t.mem.take (j + 1)).map mbB).flatten) := by
          rw [← HNY.out]
          simpa [mbB] using hT2
        go_wp2_with fail
        exact ⟨⟨j + 1, by go_num, by omega, hS9⟩, by simp [intOf]; omega⟩

end Go.Proofs.YtmgdjiplpfeoiaaDoor
set_option linter.unusedSimpArgs false
set_option linter.unusedVariables false
namespace Go.Proofs.YtmgdjiplpfeoiaaDoor
open Go.RowKit

/-! ### Bytes -/
set_option maxHeartbeats 2000000 in
theorem bytes_yes (av bv : Value) (X : List UInt8) (w : World) (ha : By w av X) (hb : By w bv X) :
    Calls Tryd.prog 18 #[av, bv] w fun e w' => e = .returned (.bool true) ∧ w = w' := by
  have h1 : (convert 35 9 av).run Tryd.prog w = .ok (nV X) w := ha.conv Tryd.underlying35 Tryd.underlying5 Tryd.underlying9
  have h2 : (convert 35 9 bv).run Tryd.prog w = .ok (nV X) w := hb.conv Tryd.underlying35 Tryd.underlying5 Tryd.underlying9
  obtain ⟨A, c, rfl⟩ := ha.any
  obtain ⟨B, d, rfl⟩ := hb.any
  go_enter Tryd.func18, Tryd.ntmps18
  go_wp2_with fail
  go_ret
  exact ⟨rfl, rfl⟩

theorem Raw.memlen {l : List Ty} (h : (checkL l).2 = 0) (hr : Raw l) : ∀ t ∈ l, t.mem.length ≤ maxLen := fun t ht => by
  have := ((ok_of hr h).2 t ht).mem
  unfold maxLen
  omega
theorem dec_memlen (b : List UInt8) : ∀ t ∈ (decB b).1, t.mem.length ≤ maxLen := by
  rcases decB_cases b with e | ⟨l, n, e, hr, hc, hS⟩
  · rw [e]
    intro t ht
    cases ht
  · rw [e]
    exact Raw.memlen hc hr

set_option maxHeartbeats 4000000 in
set_option maxRecDepth 100000 in
theorem walk_bytes (a : Option Addr) (c : Nat) (l : List Ty) (bv : Value) (b : List UInt8) (w : World) (h : Tys w (.slice a l.length c) l) (hr : Raw l) (hb : By w bv b) (hbl : b.length ≤ maxLen) :
    Calls Tryd.prog 8 #[.slice a l.length c, bv] w fun e w' => e = .returned (.bool true) ∧ Kept (fun _ => False) w w' := by
  have hFW := Lib.hid (fun W hW => few_any l a c W hW hr)
  have hE1 := Lib.hid (fun W hW => encode_any l a c W hW hr)
  have hE2 := Lib.hid (fun W hW => refencode_any l a c W hW hr)
  have hD1 := Lib.hid (fun W hW hl => decode_any bv b W hW hl)
  have hD2 := Lib.hid (fun W hW hl => refdecode_any bv b W hW hl)
  have hSM := Lib.hid (fun a1 a2 d1 d2 W h1 h2 => same_yes (decB b).1 a1 a2 d1 d2 W h1 h2 (decB_raw b).len (dec_memlen b))
  rw [dec_same] at hD2
  generalize (checkL l).2 = x at *
  generalize encB l = X at *
  generalize decB b = D at *
  obtain ⟨m, n, g⟩ := D
  simp only at hD1 hD2 hSM
  unfold maxLen at hbl
  obtain ⟨A, d, rfl⟩ := hb.any
  clear hr
  go_enter Tryd.func8, Tryd.ntmps8
  go_wp2_with fail
  refine (known_any w).mono ?_
  rintro e w1 ⟨rfl, hk1⟩
  go_wp2_with fail
  refine (hFW.out _ (h.kept hk1)).mono ?_
  rintro e w2 ⟨⟨bb, rfl⟩, hk2⟩
  have hK2 := hk1.trans hk2 (fun _ _ h => h)
  clear hk1 hk2
  cases bb
  · go_wp2_with fail
    go_ret
    exact ⟨rfl, hK2⟩
  by_cases h4 : 4000 < b.length
  · have h4d : decide ((4000 : Int) < b.length) = true := decide_eq_true (by omega)
    go_wp2_with fail
    go_ret
    exact ⟨rfl, hK2⟩
  have h4d : decide ((4000 : Int) < b.length) = false := decide_eq_false (by omega)
  go_wp2_with fail
  refine (hE1.out _ (h.kept hK2)).mono ?_
  rintro e w3 ⟨o1, rfl, hO1, hk3⟩
  have hK3 := hK2.trans hk3 (fun _ _ h => h)
  go_wp2_with fail
  refine (hE2.out _ (h.kept hK3)).mono ?_
  rintro e w4 ⟨o2, rfl, hO2, hk4⟩
  have hK4 := hK3.trans hk4 (fun _ _ h => h)
  have hO1' := hO1.quiet hk4
  go_wp2_with fail
  refine (bytes_yes o1 o2 X w4 hO1'.by_ hO2.by_).mono ?_
  rintro e w5 ⟨rfl, rfl⟩
  go_wp2_with fail
  refine (hD1.out _ (hb.kept hK4 (fun _ _ h => h)) (by omega)).mono ?_
  rintro e w5 ⟨l1, rfl, hT1, hk5⟩
  have hK5 := hK4.trans hk5 (fun _ _ h => h)
  go_wp2_with fail
  refine (hD2.out _ (hb.kept hK5 (fun _ _ h => h)) (by omega)).mono ?_
  rintro e w6 ⟨l2, rfl, hT2, hk6⟩
  have hK6 := hK5.trans hk6 (fun _ _ h => h)
  have hT1' := hT1.kept hk6
  obtain ⟨q1, d1, rfl, _⟩ := id hT1
  obtain ⟨q2, d2, rfl, _⟩ := id hT2
  go_wp2_with fail
  refine (hSM.out _ _ _ _ _ hT1' hT2).mono ?_
  rintro e w7 ⟨rfl, hk7⟩
  have hK7 := hK6.trans hk7 (fun _ _ h => h)
  clear hK2 hK3 hK4 hK5 hK6
  go_wp2_with fail
  go_ret
  exact ⟨rfl, hK7⟩

end Go.Proofs.YtmgdjiplpfeoiaaDoor
set_option linter.unusedSimpArgs false
set_option linter.unusedVariables false
namespace Go.Proofs.YtmgdjiplpfeoiaaDoor
open Go.RowKit

/-! ### a list comes back -/
theorem run_pre (g off len c n : Nat) (h : n ≤ len) (hc : len ≤ c) (w : World) :
    (Instr.sliceAt 35 (.slice (some ⟨g, off, none⟩) len c) none (some (.int .i64 n)) none).run Tryd.prog w = .ok (.slice (some ⟨g, off, none⟩) n c) w := by
  obtain ⟨i0, hI0, hI1, hI2, hI3⟩ := info_parts infoU8
  have e1 : n ≤ c := by omega
  simp [Instr.sliceAt, Instr.slice, run_underlying Tryd.underlying35, Instr.sliceBounds, run_sliceBound, sizeOf, typeInfo, hI0, hI2, add_n, e1, -Int.natCast_add]
theorem run_pre0 (c : Nat) (w : World) :
    (Instr.sliceAt 35 (.slice none 0 c) none (some (.int .i64 0)) none).run Tryd.prog w = .ok (.slice none 0 c) w := by
  obtain ⟨i0, hI0, hI1, hI2, hI3⟩ := info_parts infoU8
  simp [Instr.sliceAt, Instr.slice, run_underlying Tryd.underlying35, Instr.sliceBounds, run_sliceBound, sizeOf, typeInfo, hI0, add_n]
theorem By.pre {v : Value} {l : List UInt8} {w0 : World} (h : By w0 v l) (n : Nat) (hle : n ≤ l.length) : ∃ ov, (∀ w, (Instr.sliceAt 35 v none (some (.int .i64 n)) none).run Tryd.prog w = .ok ov w) ∧
    ∀ w, By w v l → By w ov (l.take n) := by
  rcases h with ⟨c, rfl, rfl⟩ | ⟨g, off, c, rfl, _, hc, _⟩
  · obtain rfl : n = 0 := by simpa using hle
    exact ⟨.slice none 0 c, fun w => run_pre0 c w, fun w hw => by simpa using hw⟩
  · refine ⟨_, run_pre g off l.length c n hle hc, fun w hw => ?_⟩
    have hlen : (l.take n).length = n := by simp; omega
    rcases hw with ⟨c', hv, _⟩ | ⟨g', off', c', hv, hg, _, hcell⟩
    · cases hv
    · obtain ⟨ha, _, rfl⟩ := Value.slice.inj hv
      simp only [Option.some.injEq, Addr.mk.injEq, and_true] at ha
      obtain ⟨rfl, rfl⟩ := ha
      refine .inr ⟨g, off, c, by rw [hlen], hg, by omega, fun j u hu => ?_⟩
      have hj : j < n := by
        have := (List.getElem?_eq_some_iff.1 hu).1
        rw [bcells_len, hlen] at this
        exact this
      refine hcell j u ?_
      simp only [bcells, List.getElem?_map] at hu ⊢
      rw [List.getElem?_take_of_lt hj] at hu
      exact hu
theorem listB_len {l : List Ty} (hr : Raw l) (h : (checkL l).2 = 0) : (listB l).length ≤ 800000 := by
  have hg := (good_of hr h).1
  have h1 := hg.flat_len l.length (Nat.le_refl _)
  have h2 := hg.fit.len
  rw [List.take_length] at h1
  unfold listB
  rw [List.length_append, b4_len]
  omega

set_option maxHeartbeats 4000000 in
set_option maxRecDepth 100000 in
theorem walk_back (a : Option Addr) (c : Nat) (l : List Ty) (bv mv : Value) (b more : List UInt8) (w : World) (h : Tys w (.slice a l.length c) l) (hr : Raw l) (hb : By w bv b) (hbl : b.length ≤ maxLen) (hm : By w mv more) (hml : more.length ≤ maxLen) :
    Calls Tryd.prog 9 #[.slice a l.length c, bv, mv] w fun e w' => e = .returned (.bool true) ∧ Kept (fun _ => False) w w' := by
  obtain ⟨i0, hI0, hI1, hI2, hI3⟩ := info_parts infoU8
  have hFW := Lib.hid (fun W hW => few_any l a c W hW hr)
  have hE1 := Lib.hid (fun W hW => encode_any l a c W hW hr)
  have hD1 := Lib.hid (fun W hW hl => decode_any bv b W hW hl)
  have hcs := Lib.hid (decB_cases b)
  have HR := Lib.hid hr
  clear hr
  generalize decB b = D at *
  obtain ⟨m, n, g⟩ := D
  simp only at hD1
  unfold maxLen at hbl hml
  obtain ⟨A, d, rfl⟩ := hb.any
  obtain ⟨M, d', rfl⟩ := hm.any
  go_enter Tryd.func9, Tryd.ntmps9
  go_wp2_with fail
  refine (known_any w).mono ?_
  rintro e w1 ⟨rfl, hk1⟩
  go_wp2_with fail
  refine (hFW.out _ (h.kept hk1)).mono ?_
  rintro e w2 ⟨⟨bb, rfl⟩, hk2⟩
  have hK2 := hk1.trans hk2 (fun _ _ h => h)
  clear hk1 hk2 hFW
  cases bb
  · go_wp2_with fail
    go_ret
    exact ⟨rfl, hK2⟩
  by_cases h4 : 4000 < b.length
  · have h4d : decide ((4000 : Int) < b.length) = true := decide_eq_true (by omega)
    go_wp2_with fail
    go_ret
    exact ⟨rfl, hK2⟩
  have h4d : decide ((4000 : Int) < b.length) = false := decide_eq_false (by omega)
  by_cases h5 : 100 < more.length
  · have h5d : decide ((100 : Int) < more.length) = true := decide_eq_true (by omega)
    go_wp2_with fail
    go_ret
    exact ⟨rfl, hK2⟩
  have h5d : decide ((100 : Int) < more.length) = false := decide_eq_false (by omega)
  go_wp2_with fail
  refine (hE1.out _ (h.kept hK2)).mono ?_
  rintro e w3 ⟨o1, rfl, hO1, hk3⟩
  have hK3 := hK2.trans hk3 (fun _ _ h => h)
  clear hK2 hk3 hE1 h4d h5d
  by_cases h0 : (checkL l).2 = 0
  case neg =>
    as_aux_lemma =>
    have h0d : ((checkL l).2 == 0) = false := by simpa using h0
    clear h0
    generalize (checkL l).2 = x at *
    go_wp2_with fail
    refine (hD1.out _ (hb.kept hK3 (fun _ _ h => h)) (by omega)).mono ?_
    rintro e w8 ⟨l8, rfl, hT8, hk8⟩
    have hK8 := hK3.trans hk8 (fun _ _ h => h)
    clear hD1
    obtain ⟨q8, d8, rfl, _⟩ := id hT8
    rcases hcs.out with hz | ⟨m', n', hz, hr', hc', hS'⟩
    · obtain ⟨rfl, rfl, rfl⟩ : m = [] ∧ n = 0 ∧ g = 40 := by simpa using hz
      clear hz
      go_wp2_with fail
      go_ret
      exact ⟨rfl, hK8⟩
    · obtain ⟨rfl, rfl, rfl⟩ : m = m' ∧ n = n' ∧ g = 0 := by simpa using hz
      clear hz
      obtain ⟨hnb, htk⟩ := hS'.all
      have hE9 := Lib.hid (encode_any m q8 d8 w8 hT8 hr')
      have hE : encB m = listB m := by unfold encB; rw [if_pos hc']
      rw [hc', hE] at hE9
      obtain ⟨ov, hcut, hov⟩ := hb.pre n hnb
      have HT := Lib.hid htk
      clear hE hc' hr' hS' hT8 htk
      have hnd : decide ((n : Int) ≤ b.length) = true := decide_eq_true (by omega)
      go_wp2_with fail
      refine hE9.out.mono ?_
      rintro e w9 ⟨o9, rfl, hO9, hk9⟩
      have hK9 := hK8.trans hk9 (fun _ _ h => h)
      have hB9 := hov w9 (hb.kept hK9 (fun _ _ h => h))
      rw [HT.out] at hB9
      go_wp2_with fail
      refine (bytes_yes o9 ov _ w9 hO9.by_ hB9).mono ?_
      rintro e w10 ⟨rfl, rfl⟩
      go_wp2_with fail
      go_ret
      exact ⟨rfl, hK9⟩
  case pos =>
    have hE : encB l = listB l := by unfold encB; rw [if_pos h0]
    have hXl := listB_len HR.out h0
    have hdec := decB_ok HR.out h0 (Seg.front (listB l) more)
    have hlm := Raw.memlen h0 HR.out
    have hSM := Lib.hid (fun a1 a2 d1 d2 W h1 h2 => same_yes l a1 a2 d1 d2 W h1 h2 HR.out.len hlm)
    rw [hE] at hO1
    rw [h0]
    clear hE h0 hlm
    have hD2 := Lib.hid (fun v W hW hl => decode_any v (listB l ++ more) W hW hl)
    rw [hdec] at hD2
    simp only at hD2
    clear hdec
    generalize listB l = X at *
    obtain ⟨oA, oc, rfl⟩ := hO1.any
    go_wp2_with (first
      | (at_builtin; refine wpList_obApp (w := w3) rfl (.const (.slice none 0 0)) (.tmp 38) 35 rfl Tryd.underlying35 hI0 hI1 hI2 hI3 rfl w3.heap.size (.slice none 0 0) _ [] X rfl rfl (OB.nil _ _) hO1.by_ (by simp only [List.length_nil]; omega) (Nat.le_refl _) ?_; intro v4 w4 hO4 hk4 hw4)
      | (at_builtin; refine wpList_obApp (w := w4) rfl (.tmp 39) (.tmp 40) 35 rfl Tryd.underlying35 hI0 hI1 hI2 hI3 rfl w3.heap.size _ _ X more rfl rfl hO4 (hm.kept (hK3.trans hk4 (fun k _ e => by simp [Value.ownBlock] at e)) (fun _ _ h => h)) (by omega) hk4.size ?_; intro v5 w5 hO5 hk5 hw5))
    have hk4' : Kept (fun _ => False) w3 w4 := hk4.mono (fun k _ e => by simp [Value.ownBlock] at e)
    have hK4 := hK3.trans hk4' (fun _ _ h => h)
    rw [List.nil_append] at hO4
    have hk5' : Kept (fun _ => False) w3 w5 := hO4.step hk4' hk5
    have hK5 := hK3.trans hk5' (fun _ _ h => h)
    refine (hD2.out v5 _ hO5.by_ (by rw [List.length_append]; omega)).mono ?_
    rintro e w6 ⟨l6, rfl, hT6, hk6⟩
    have hK6 := hK5.trans hk6 (fun _ _ h => h)
    obtain ⟨q6, d6, rfl, _⟩ := id hT6
    go_wp2_with fail
    refine (hSM.out _ _ _ _ _ (h.kept hK6) hT6).mono ?_
    rintro e w7 ⟨rfl, hk7⟩
    have hK7 := hK6.trans hk7 (fun _ _ h => h)
    clear hK4 hK5 hK6 hk4 hk5 hk6 hk7 hT6 hO4 hO5 hD2 hSM hXl hk4' hk5'
    go_wp2_with fail
    refine (hD1.out _ (hb.kept hK7 (fun _ _ h => h)) (by omega)).mono ?_
    rintro e w8 ⟨l8, rfl, hT8, hk8⟩
    have hK8 := hK7.trans hk8 (fun _ _ h => h)
    clear hD1
    obtain ⟨q8, d8, rfl, _⟩ := id hT8
    rcases hcs.out with hz | ⟨m', n', hz, hr', hc', hS'⟩
    · obtain ⟨rfl, rfl, rfl⟩ : m = [] ∧ n = 0 ∧ g = 40 := by simpa using hz
      clear hz
      go_wp2_with fail
      go_ret
      exact ⟨rfl, hK8⟩
    · obtain ⟨rfl, rfl, rfl⟩ : m = m' ∧ n = n' ∧ g = 0 := by simpa using hz
      clear hz
      obtain ⟨hnb, htk⟩ := hS'.all
      have hE9 := Lib.hid (encode_any m q8 d8 w8 hT8 hr')
      have hE : encB m = listB m := by unfold encB; rw [if_pos hc']
      rw [hc', hE] at hE9
      obtain ⟨ov, hcut, hov⟩ := hb.pre n hnb
      have HT := Lib.hid htk
      clear hE hc' hr' hS' hT8 htk
      have hnd : decide ((n : Int) ≤ b.length) = true := decide_eq_true (by omega)
      go_wp2_with fail
      refine hE9.out.mono ?_
      rintro e w9 ⟨o9, rfl, hO9, hk9⟩
      have hK9 := hK8.trans hk9 (fun _ _ h => h)
      have hB9 := hov w9 (hb.kept hK9 (fun _ _ h => h))
      rw [HT.out] at hB9
      go_wp2_with fail
      refine (bytes_yes o9 ov _ w9 hO9.by_ hB9).mono ?_
      rintro e w10 ⟨rfl, rfl⟩
      go_wp2_with fail
      go_ret
      exact ⟨rfl, hK9⟩

end Go.Proofs.YtmgdjiplpfeoiaaDoor
