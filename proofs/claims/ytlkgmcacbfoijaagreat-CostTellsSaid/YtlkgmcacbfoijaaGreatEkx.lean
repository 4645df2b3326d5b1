import Derived.Test.YtlkgmcacbfoijaaGreatEix
set_option linter.unusedSimpArgs false
set_option linter.unusedVariables false
namespace Go.Proofs.YtlkgmcacbfoijaaGreat
open Go.RowKit


/-! ### from, begun, asked -/
structure BM (bw m : Nat) (a : Option Addr) (n c : Nat) (R : RuleP) (V : Nat → Nat) (w : World) (M : List (Int × Value)) : Prop where
  s : Blk w bw 71 (wkV a n c R.fj R.fa m)
  m : IMap w .i64 m M
  ok : ∀ (i : Nat) (v : Value), lookI M i = some v → v = u64 (V i)
theorem BM.kept {bw m : Nat} {a : Option Addr} {n c : Nat} {R : RuleP} {V : Nat → Nat} {w w' : World} {M : List (Int × Value)} (h : BM bw m a n c R V w M) (hk : Kept (fun _ => False) w w') : BM bw m a n c R V w' M :=
  ⟨hk.blk id h.s, h.m.kept hk id, h.ok⟩
set_option maxHeartbeats 8000000 in
set_option maxRecDepth 100000 in
theorem from_any2 (l : List In) (a : Option Addr) (c : Nat) (R : RuleP) (V rk : Nat → Nat) (w0 : World) (h : Ins w0 (.slice a l.length c) l) (hok : InsOk l) (hz : checkI l = 0) (hT : Tells R l V rk) (bw m : Nat) (hm0 : w0.heap.size ≤ m) (i : Nat) (w : World) (M : List (Int × Value)) (hr : Rch l i) (hk0 : Kept (fun _ => False) w0 w) (hB : BM bw m a l.length c R V w M) :
    Calls Tryz.prog 20 #[.pointer (some ⟨bw, 0, none⟩), .int .i64 i] w fun e w' => e = .returned (u64 (V i)) ∧ ∃ M', BM bw m a l.length c R V w' M' ∧ Kept (fun k => k = m) w w' := by
  have hmf : ∀ (fn : Fn) (first cap : Array Value) (w : World), (Instr.makeFunc fn first cap).run Tryz.prog w = .ok (.func fn first cap) w := fun _ _ _ _ => rfl
  have HI := Lib.hid (fun b2 b5 W hk hA => ask_ih l a c R V rk w0 h hok hz hT b2 b5 bw m hm0 (rk i + 1) i W M (Nat.lt_succ_self _) hr hk hA)
  have HB := Lib.hid hB
  have HK0 := Lib.hid hk0
  have hvi := hT.hi i
  unfold top at hvi
  clear h hok hz hT hB hk0 hr
  go_enter Tryz.func20, Tryz.ntmps20
  go_upto_region 3 with fail
  have hk := ((Kept.refl (fun _ => False) w).alloc (.cells #[.pointer (some ⟨bw, 0, none⟩)] 52)).alloc (.cells #[.func (.func 30) #[] #[.pointer (some ⟨w.heap.size, 0, none⟩), .pointer (some ⟨w.heap.size + 1, 0, none⟩)]] 56)
  have hA : AM w.heap.size (w.heap.size + 1) bw m a l.length c R V ((w.alloc (.cells #[.pointer (some ⟨bw, 0, none⟩)] 52)).alloc (.cells #[.func (.func 30) #[] #[.pointer (some ⟨w.heap.size, 0, none⟩), .pointer (some ⟨w.heap.size + 1, 0, none⟩)]] 56)) M :=
    ⟨(Blk.new w _ _).alloc _, blk_new (w.alloc _) (by simp), hk.blk id HB.out.s, HB.out.m.kept hk id, HB.out.ok⟩
  have HA := Lib.hid hA
  have HK := Lib.hid hk
  have cf := hA.f.cell 0
  have lf := hA.f.lt
  clear hA hk
  generalize (w.alloc (.cells #[.pointer (some ⟨bw, 0, none⟩)] 52)).alloc (.cells #[.func (.func 30) #[] #[.pointer (some ⟨w.heap.size, 0, none⟩), .pointer (some ⟨w.heap.size + 1, 0, none⟩)]] 56) = w1 at *
  generalize w.heap.size + 1 = b5 at *
  generalize w.heap.size = b2 at *
  have HC := Lib.hid (HI.out b2 b5 w1 (HK0.out.trans HK.out (fun _ _ h => h)) HA.out)
  clear HI
  go_wp2_with fail
  refine HC.out.mono ?_
  rintro e w2 ⟨rfl, M', hA2, hk2⟩
  go_wp2_with fail
  go_ret
  exact ⟨rfl, M', ⟨hA2.s, hA2.m, hA2.ok⟩, (HK.out.mono (fun _ _ h => h.elim)).trans hk2 (fun _ _ e => e)⟩
set_option maxHeartbeats 8000000 in
set_option maxRecDepth 100000 in
noncomputable def costE (l : List In) : Int := if checkI l = 0 then (if depthE l = 0 then (@ite _ (HasBack l l.length) (Classical.propDecidable _) 240 0) else 240) else checkI l
set_option maxHeartbeats 8000000 in
set_option maxRecDepth 100000 in
theorem begun_any (l : List In) (a : Option Addr) (c : Nat) (R : RuleP) (w : World) (h : Ins w (.slice a l.length c) l) (hok : InsOk l) :
    Calls Tryz.prog 18 #[.slice a l.length c, .agg #[.func (.func R.fj) #[] #[], .int .u64 1, .func (.func R.fa) #[] #[]]] w fun e w' =>
      (∃ p, e = .returned (.tuple #[.pointer p, .int .i64 (costE l)]) ∧ (costE l = 0 → ∃ bw m, p = some ⟨bw, 0, none⟩ ∧ Blk w' bw 71 (wkV a l.length c R.fj R.fa m) ∧ IMap w' .i64 m [] ∧ w.heap.size ≤ m)) ∧ Kept (fun _ => False) w w' := by
  have HBA := Lib.hid (fun W hI => fBack_any l a c W hI hok)
  have HDE := Lib.hid (fun W hI => fDepth_any l a c W hI hok)
  have HIN := Lib.hid (fun (W : World) (hk : Kept (fun _ => False) w W) => h.kept hk)
  clear h
  have hmm := @run_makeMap Tryz.prog
  by_cases hz : checkI l = 0
  case neg =>
    have hzd : (checkI l != 0) = true := by simpa using hz
    have hzd' : (checkI l == 0) = false := by simpa using hz
    have hce : costE l = checkI l := if_neg hz
    rw [hce]
    have HZ := Lib.hid hz
    clear hz hce
    generalize checkI l = r at *
    go_enter Tryz.func18, Tryz.ntmps18
    go_wp2_with fail
    refine (HBA.out _ (HIN.out _ ((Kept.refl _ w).alloc _))).mono ?_
    rintro e w1 ⟨⟨p, n, m, rfl, hb⟩, hk1⟩
    clear hb
    go_wp2_with fail
    refine bodyPost_ret (v := .tuple #[.pointer none, .int .i64 r]) (by simp [results, Tryz.results18, go_sem]) rfl ?_
    exact ⟨⟨_, rfl, fun h => absurd h HZ.out⟩, ((Kept.refl _ w).alloc _).trans hk1 (fun _ _ h => h)⟩
  case pos =>
  have hce : costE l = if depthE l = 0 then (@ite _ (HasBack l l.length) (Classical.propDecidable _) 240 0) else 240 := if_pos hz
  rw [hce]
  rw [hz] at HBA
  clear hce hz
  obtain ⟨hbb, hhb⟩ : ∃ b : Bool, (b = true ↔ HasBack l l.length) := ⟨@decide (HasBack l l.length) (Classical.propDecidable _), @decide_eq_true_iff _ (Classical.propDecidable _)⟩
  have hite : (@ite _ (HasBack l l.length) (Classical.propDecidable _) (240 : Int) 0) = if hbb = true then 240 else 0 := by
    by_cases e : HasBack l l.length
    · rw [@if_pos _ (Classical.propDecidable _) e, if_pos (hhb.2 e)]
    · rw [@if_neg _ (Classical.propDecidable _) e, if_neg (fun h => e (hhb.1 h))]
  rw [hite]
  have HHB := Lib.hid hhb
  clear hite hhb
  generalize depthE l = de at *
  go_enter Tryz.func18, Tryz.ntmps18
  go_wp2_with fail
  have hbr := Blk.new w 51 #[.func (.func R.fj) #[] #[], .int .u64 1, .func (.func R.fa) #[] #[]]
  refine (HBA.out _ (HIN.out _ ((Kept.refl _ w).alloc _))).mono ?_
  rintro e w1 ⟨⟨p, n, m, rfl, hb⟩, hk1⟩
  have hb := Lib.hid (hb trivial)
  have hbr1 := hk1.blk id hbr
  have hK1 := ((Kept.refl (fun _ => False) w).alloc (.cells #[.func (.func R.fj) #[] #[], .int .u64 1, .func (.func R.fa) #[] #[]] 51)).trans hk1 (fun _ _ h => h)
  clear hbr hk1 HBA
  go_wp2_with fail
  refine (HDE.out _ (HIN.out _ hK1)).mono ?_
  rintro e w2 ⟨⟨x, rfl⟩, hk2⟩
  have hbr2 := hk2.blk id hbr1
  have hK2 := hK1.trans hk2 (fun _ _ h => h)
  have r0 := hbr2.cell 0
  have r1 := hbr2.cell 1
  have r2 := hbr2.cell 2
  have rl := hbr2.lt
  clear hbr1 hbr2 hK1 hk2 HDE
  cases hd : (de == 0)
  case false =>
    have hdn : (de != 0) = true := by simp only [bne, hd]; rfl
    have hdn2 : (!(de == 0)) = true := by rw [hd]; rfl
    have hde : ¬ de = 0 := by simpa using hd
    have HDN := Lib.hid hde
    clear hde
    go_wp2_with fail
    refine bodyPost_ret (v := .tuple #[.pointer none, .int .i64 240]) (by simp [results, Tryz.results18, go_sem]) rfl ?_
    exact ⟨⟨_, rfl⟩, hK2⟩
  case true =>
    have hdn : (de != 0) = false := by simp only [bne, hd]; rfl
    have hdn2 : (!(de == 0)) = false := by rw [hd]; rfl
    have hde : de = 0 := by simpa using hd
    subst hde
    cases hbb
    case true =>
      have hnp : 0 < n := hb.out.2 (HHB.out.1 rfl)
      have hnd : decide (0 < n) = true := decide_eq_true hnp
      have hnd2 : decide ((0 : Int) < (n : Int)) = true := decide_eq_true (by omega)
      go_wp2_with fail
      refine bodyPost_ret (v := .tuple #[.pointer none, .int .i64 240]) (by simp [results, Tryz.results18, go_sem]) rfl ?_
      exact ⟨⟨_, rfl⟩, hK2⟩
    case false =>
      have hnp : n = 0 := by
        rcases Nat.eq_zero_or_pos n with h | h
        · exact h
        · have := HHB.out.2 (hb.out.1 h)
          cases this
      subst hnp
      clear hb
      go_wp2_with fail
      refine bodyPost_ret (v := .tuple #[.pointer (some ⟨w2.heap.size + 1, 0, none⟩), .int .i64 0]) (by simp [results, Tryz.results18, go_sem]) rfl ?_
      refine ⟨⟨_, rfl, w2.heap.size + 1, rfl, w2.heap.size, blk_new (w2.alloc _) (by simp), (IMap.made w2 .i64).alloc _, hK2.size⟩, (hK2.alloc _).alloc _⟩
set_option maxHeartbeats 8000000 in
set_option maxRecDepth 100000 in
theorem asked_any (l : List In) (a : Option Addr) (c : Nat) (R : RuleP) (w : World) (h : Ins w (.slice a l.length c) l) (hok : InsOk l) (hT : costE l = 0 → ∃ V rk, Tells R l V rk) :
    Calls Tryz.prog 13 #[.slice a l.length c, .agg #[.func (.func R.fj) #[] #[], .int .u64 1, .func (.func R.fa) #[] #[]]] w fun e w' =>
      (∃ r : Nat, e = .returned (.tuple #[u64 r, .int .i64 (costE l)]) ∧ (costE l = 0 → ∃ V rk, Tells R l V rk ∧ r = V 0) ∧ (costE l ≠ 0 → r = 0)) ∧ Kept (fun _ => False) w w' := by
  have hmf : ∀ (fn : Fn) (first cap : Array Value) (w : World), (Instr.makeFunc fn first cap).run Tryz.prog w = .ok (.func fn first cap) w := fun _ _ _ _ => rfl
  have hz : costE l = 0 → checkI l = 0 := fun e => by
    unfold costE at e
    split at e
    · assumption
    · rename_i h; exact absurd e h
  have HBE := Lib.hid (fun W hI => begun_any l a c R W hI hok)
  have HIN := Lib.hid (fun (W : World) (hk : Kept (fun _ => False) w W) => h.kept hk)
  have HFR := Lib.hid (fun hz V rk w0 h hT bw m hm0 w M hr hk0 hB => from_any2 l a c R V rk w0 h hok hz hT bw m hm0 0 w M hr hk0 hB)
  clear h
  have hbr := Blk.new w 51 #[.func (.func R.fj) #[] #[], .int .u64 1, .func (.func R.fa) #[] #[]]
  have hk0 := (Kept.refl (fun _ => False) w).alloc (.cells #[.func (.func R.fj) #[] #[], .int .u64 1, .func (.func R.fa) #[] #[]] 51)
  by_cases hc : costE l = 0
  case neg =>
    have hzd : (costE l != 0) = true := by simpa using hc
    have hzd' : (costE l == 0) = false := by simpa using hc
    have HZ := Lib.hid hc
    clear hc hT hz HFR
    generalize costE l = r at *
    go_enter Tryz.func13, Tryz.ntmps13
    go_wp2_with fail
    refine (HBE.out _ (HIN.out _ hk0)).mono ?_
    rintro e w1 ⟨⟨p, rfl, hb⟩, hk1⟩
    clear hb
    go_wp2_with fail
    refine bodyPost_ret (v := .tuple #[u64 0, .int .i64 r]) (by simp [results, Tryz.results13, go_sem]) rfl ?_
    exact ⟨⟨0, rfl, fun h => absurd h HZ.out, fun _ => rfl⟩, hk0.trans hk1 (fun _ _ h => h)⟩
  case pos =>
    obtain ⟨V, rk, hTT⟩ := hT hc
    have hcz := hz hc
    have hvi := hTT.hi 0
    unfold top at hvi
    have HFR2 := Lib.hid (fun w0 h bw m hm0 w M hk0 hB => HFR.out hcz V rk w0 h hTT bw m hm0 w M Rch.zero hk0 hB)
    have HTT := Lib.hid hTT
    rw [hc] at HBE ⊢
    clear HFR hT hz hc hTT hcz
    go_enter Tryz.func13, Tryz.ntmps13
    go_wp2_with fail
    refine (HBE.out _ (HIN.out _ hk0)).mono ?_
    rintro e w1 ⟨⟨p, rfl, hb⟩, hk1⟩
    obtain ⟨bw, m, rfl, hB, hM, hm⟩ := hb trivial
    have HC := Lib.hid (HFR2.out _ (HIN.out _ hk0) bw m hm w1 [] hk1 ⟨hB, hM, fun i v h => by simp [lookI] at h⟩)
    have hsz0 := hk0.size
    have hml := hM.lt
    clear hB hM HFR2
    go_wp2_with fail
    refine HC.out.mono ?_
    rintro e w2 ⟨rfl, M', hB2, hk2⟩
    have HKF := Lib.hid ((hk0.trans hk1 (fun _ _ h => h)).trans hk2 (fun k hk e => by have e : k = m := e; omega))
    clear hB2 hk2
    go_wp2_with fail
    refine bodyPost_ret (v := .tuple #[u64 (V 0), .int .i64 0]) (by simp [results, Tryz.results13, go_sem]) rfl ?_
    exact ⟨⟨V 0, rfl, fun _ => ⟨V, rk, HTT.out, rfl⟩, fun h => absurd rfl h⟩, HKF.out⟩

set_option maxHeartbeats 4000000 in
set_option maxRecDepth 100000 in
theorem cLongest_any (l : List In) (a : Option Addr) (c : Nat) (w : World) (h : Ins w (.slice a l.length c) l) (hok : InsOk l) (hT : costE l = 0 → ∃ V rk, Tells longR l V rk) :
    Calls Tryz.prog 5 #[.slice a l.length c] w fun e w' =>
      (∃ r : Nat, e = .returned (.tuple #[u64 r, .int .i64 (costE l)]) ∧ (costE l = 0 → ∃ V rk, Tells longR l V rk ∧ r = V 0) ∧ (costE l ≠ 0 → r = 0)) ∧ Kept (fun _ => False) w w' := by
  have HA := Lib.hid (asked_any l a c longR w h hok hT)
  clear h hok hT
  obtain ⟨r, hr⟩ : ∃ r, costE l = r := ⟨_, rfl⟩
  rw [hr] at HA ⊢
  go_enter Tryz.func5, Tryz.ntmps5
  go_wp2_with fail
  refine HA.out.mono ?_
  rintro e w1 ⟨⟨n, rfl, h1, h2⟩, hk1⟩
  have H12 := Lib.hid (And.intro h1 h2)
  clear h1 h2 HA
  go_wp2_with fail
  refine bodyPost_ret (v := .tuple #[u64 n, .int .i64 r]) (by simp [results, Tryz.results5, go_sem]) rfl ?_
  exact ⟨⟨n, rfl, H12.out.1, H12.out.2⟩, hk1⟩

set_option maxHeartbeats 4000000 in
set_option maxRecDepth 100000 in
theorem cShortest_any (l : List In) (a : Option Addr) (c : Nat) (w : World) (h : Ins w (.slice a l.length c) l) (hok : InsOk l) (hT : costE l = 0 → ∃ V rk, Tells shortR l V rk) :
    Calls Tryz.prog 6 #[.slice a l.length c] w fun e w' =>
      (∃ r : Nat, e = .returned (.tuple #[u64 r, .int .i64 (costE l)]) ∧ (costE l = 0 → ∃ V rk, Tells shortR l V rk ∧ r = V 0) ∧ (costE l ≠ 0 → r = 0)) ∧ Kept (fun _ => False) w w' := by
  have HA := Lib.hid (asked_any l a c shortR w h hok hT)
  clear h hok hT
  obtain ⟨r, hr⟩ : ∃ r, costE l = r := ⟨_, rfl⟩
  rw [hr] at HA ⊢
  go_enter Tryz.func6, Tryz.ntmps6
  go_wp2_with fail
  refine HA.out.mono ?_
  rintro e w1 ⟨⟨n, rfl, h1, h2⟩, hk1⟩
  have H12 := Lib.hid (And.intro h1 h2)
  clear h1 h2 HA
  go_wp2_with fail
  refine bodyPost_ret (v := .tuple #[u64 n, .int .i64 r]) (by simp [results, Tryz.results6, go_sem]) rfl ?_
  exact ⟨⟨n, rfl, H12.out.1, H12.out.2⟩, hk1⟩

set_option maxHeartbeats 4000000 in
set_option maxRecDepth 100000 in
theorem cWays_any (l : List In) (a : Option Addr) (c : Nat) (w : World) (h : Ins w (.slice a l.length c) l) (hok : InsOk l) (hT : costE l = 0 → ∃ V rk, Tells waysR l V rk) :
    Calls Tryz.prog 7 #[.slice a l.length c] w fun e w' =>
      (∃ r : Nat, e = .returned (.tuple #[u64 r, .int .i64 (costE l)]) ∧ (costE l = 0 → ∃ V rk, Tells waysR l V rk ∧ r = V 0) ∧ (costE l ≠ 0 → r = 0)) ∧ Kept (fun _ => False) w w' := by
  have HA := Lib.hid (asked_any l a c waysR w h hok hT)
  clear h hok hT
  obtain ⟨r, hr⟩ : ∃ r, costE l = r := ⟨_, rfl⟩
  rw [hr] at HA ⊢
  go_enter Tryz.func7, Tryz.ntmps7
  go_wp2_with fail
  refine HA.out.mono ?_
  rintro e w1 ⟨⟨n, rfl, h1, h2⟩, hk1⟩
  have H12 := Lib.hid (And.intro h1 h2)
  clear h1 h2 HA
  go_wp2_with fail
  refine bodyPost_ret (v := .tuple #[u64 n, .int .i64 r]) (by simp [results, Tryz.results7, go_sem]) rfl ?_
  exact ⟨⟨n, rfl, H12.out.1, H12.out.2⟩, hk1⟩



/-! ### a program without loops has its numbers: plain -/
def costF (R : RuleP) (l : List In) : Nat → Nat → Nat
  | 0, _ => 1
  | f + 1, i => match l[i]? with
    | some x => nexC R (costF R l f) (calC R (costF R l f) i x) (nextC i x)
    | none => 1
theorem calC_top (R : RuleP) {V : Nat → Nat} (hV : ∀ i, V i ≤ top) (i : Nat) (x : In) : calC R V i x ≤ top := by
  unfold calC
  split
  · exact R.ta _ _ (by unfold top; omega) (hV _)
  · unfold top; omega
theorem nexC_top (R : RuleP) {V : Nat → Nat} (hV : ∀ i, V i ≤ top) {c : Nat} (hc : c ≤ top) (N : List Int) : nexC R V c N ≤ top := by
  unfold nexC
  split
  · exact hc
  · exact R.ta _ _ hc (hV _)
  · exact R.ta _ _ hc (R.tj _ _ (hV _) (hV _))
theorem costF_top (R : RuleP) (l : List In) : ∀ f i, costF R l f i ≤ top
  | 0, _ => by unfold costF top; omega
  | f + 1, i => by
    unfold costF
    split
    · exact nexC_top R (costF_top R l f) (calC_top R (costF_top R l f) _ _) _
    · unfold top; omega
theorem nexC_congr (R : RuleP) {V W : Nat → Nat} {c d : Nat} (hc : c = d) {N : List Int} (h : ∀ j ∈ N, V j.toNat = W j.toNat) : nexC R V c N = nexC R W d N := by
  subst hc
  unfold nexC
  split
  · rfl
  · rw [h _ (by simp)]
  · rename_i j k r
    rw [h j (by simp), h k (by simp)]
/-- what the numbers fall by -/
structure Falls (l : List In) (rk : Nat → Nat) : Prop where
  next : ∀ (i : Nat) (x : In), Rch l i → l[i]? = some x → ∀ j ∈ nextC i x, rk j.toNat < rk i ∧ Rch l j.toNat
  sub : ∀ (i : Nat) (x : In), Rch l i → l[i]? = some x → subB x = true → rk ((i : Int) + 1 + x.imm).toNat < rk i ∧ Rch l ((i : Int) + 1 + x.imm).toNat
theorem costF_same (R : RuleP) {l : List In} {rk : Nat → Nat} (h : Falls l rk) : ∀ (f g i : Nat), Rch l i → rk i < f → rk i < g → costF R l f i = costF R l g i
  | 0, _, _, _, h1, _ => absurd h1 (Nat.not_lt_zero _)
  | _ + 1, 0, _, _, _, h2 => absurd h2 (Nat.not_lt_zero _)
  | f + 1, g + 1, i, hr, h1, h2 => by
    unfold costF
    cases hx : l[i]? with
    | none => rfl
    | some x =>
      refine nexC_congr R ?_ (fun j hj => ?_)
      · unfold calC
        split
        · rename_i hs
          have := h.sub i x hr hx hs
          rw [costF_same R h f g _ this.2 (by omega) (by omega)]
        · rfl
      · have := h.next i x hr hx j hj
        exact costF_same R h f g _ this.2 (by omega) (by omega)
theorem tells_falls (R : RuleP) {l : List In} {rk : Nat → Nat} (h : Falls l rk) : Tells R l (fun i => costF R l (rk i + 1) i) rk where
  val := fun i x hr hx => by
    show costF R l (rk i + 1) i = _
    rw [costF]
    rw [hx]
    refine nexC_congr R ?_ (fun j hj => ?_)
    · unfold calC
      split
      · rename_i hs
        have := h.sub i x hr hx hs
        rw [costF_same R h (rk i) _ _ this.2 this.1 (Nat.lt_succ_self _)]
      · rfl
    · have := h.next i x hr hx j hj
      exact costF_same R h (rk i) _ _ this.2 this.1 (Nat.lt_succ_self _)
  hi := fun i => costF_top R l _ i
  next := fun i x hr hx j hj => (h.next i x hr hx j hj).1
  sub := fun i x hr hx hs => (h.sub i x hr hx hs).1
theorem tells_unique {R : RuleP} {l : List In} {V W rk rk' : Nat → Nat} (hz : checkI l = 0) (h : Tells R l V rk) (k : Tells R l W rk') : ∀ (f i : Nat), rk i < f → Rch l i → V i = W i := by
  intro f
  induction f with
  | zero => exact fun i h => absurd h (Nat.not_lt_zero _)
  | succ f ih =>
    intro i hf hr
    obtain ⟨hil, hs⟩ := rch_ok hz hr
    obtain ⟨x, hx⟩ : ∃ x, l[i]? = some x := ⟨_, List.getElem?_eq_getElem hil⟩
    rw [h.val i x hr hx, k.val i x hr hx]
    refine nexC_congr R ?_ (fun j hj => ?_)
    · unfold calC
      split
      · rename_i hsb
        have hcb : isCallB x = true := by
          unfold subB at hsb
          unfold isCallB
          rw [hsb]; rfl
        obtain ⟨n, e1, e2, e3, _⟩ := nam_ok hz hx hs hcb
        have := h.sub i x hr hx hsb
        rw [e1, Int.toNat_natCast] at this ⊢
        rw [ih n (by omega) (.step hr (by rw [succ_at hx]; exact List.mem_append_right _ (by unfold namC; rw [if_pos hcb, e1]; simp)))]
      · rfl
    · obtain ⟨n, e, e2, e3, _⟩ := next_ok hz hx hs hj
      subst e
      have := h.next i x hr hx (n : Int) hj
      rw [Int.toNat_natCast] at this ⊢
      exact ih n (by omega) (.step hr (by rw [succ_at hx]; exact List.mem_append_left _ hj))
theorem falls_of {l : List In} (hz : checkI l = 0) (hb : ¬ HasBack l l.length) (hd : DepthOK (callsL l)) : ∃ rk, Falls l rk := by
  obtain ⟨r8, hR, -⟩ := hd
  have hsz := (check_parts hz).1
  refine ⟨fun i => r8 (ofC (partsL l) i).toNat * (l.length + 1) + (l.length - i), ⟨fun i x hr hx j hj => ?_, fun i x hr hx hs => ?_⟩⟩
  · obtain ⟨hil, hsec⟩ := rch_ok hz hr
    obtain ⟨n, rfl, hn, _, hof⟩ := next_ok hz hx hsec hj
    rw [Int.toNat_natCast]
    have hlt : i < n := by
      rcases Nat.lt_or_ge i n with h | h
      · exact h
      · exact absurd ⟨i, hil, x, hx, hr, n, hj, by omega⟩ hb
    refine ⟨?_, .step hr (by rw [succ_at hx]; exact List.mem_append_left _ hj)⟩
    show r8 (ofC (partsL l) n).toNat * (l.length + 1) + (l.length - n) < r8 (ofC (partsL l) i).toNat * (l.length + 1) + (l.length - i)
    rw [hof]
    omega
  · obtain ⟨hil, hsec⟩ := rch_ok hz hr
    have hcb : isCallB x = true := by
      unfold subB at hs
      unfold isCallB
      rw [hs]; rfl
    obtain ⟨n, e1, e2, e3, _⟩ := nam_ok hz hx hsec hcb
    have hnam : namC i x = some (n : Int) := by unfold namC; rw [if_pos hcb, e1]
    have hrn : Rch l n := .step hr (by rw [succ_at hx]; exact List.mem_append_right _ (by rw [hnam]; simp))
    rw [e1, Int.toNat_natCast]
    refine ⟨?_, hrn⟩
    have hbeg := named_begin hz hx hr hnam
    obtain ⟨k, hk1, hk2, hk3⟩ := idxG_ok (partsL l) 0 (part_of_begin hbeg)
    have hkb : k < (beginsL l).length := by rw [← parts_len]; exact hk2
    have hkn : (beginsL l).getD k 0 = n := by
      rw [← hk3]
      have hp : (partsL l)[k]? = some ((partsL l)[k]) := List.getElem?_eq_getElem hk2
      obtain ⟨_, hp2⟩ := parts_at hp
      have hg : (partsL l).getD k (0, 0) = (partsL l)[k] := by rw [List.getD_eq_getElem?_getD, hp]; rfl
      rw [hg, hp2]
      rfl
    obtain ⟨k', ho', hk', hall⟩ := part_begins hsz (t := (n : Int)) (by omega) (by omega)
    have hkk : k' = k := by
      have h1 : k ≤ k' := (hall k hkb).1 (by rw [hkn]; exact Int.le_refl _)
      rcases Nat.eq_or_lt_of_le h1 with h | h
      · exact h.symm
      · have h2 := begins_lt hsz h hk'
        have h3 := (hall k' hk').2 (Nat.le_refl _)
        omega
    subst hkk
    obtain ⟨q, p, hp, hp1, hp2, hoi⟩ := part_ex hsz (t := (i : Int)) (by omega) (by omega)
    have hql : q < (callsL l).length := by
      have : (callsL l).length = (partsL l).length := List.length_map _
      rw [this]
      exact (List.getElem?_eq_some_iff.1 hp).1
    have hrow : (callsL l).getD q [] = rowL l p := by
      unfold callsL
      rw [List.getD_eq_getElem?_getD, List.getElem?_map, hp]
      rfl
    have hmem : (k' : Int) ∈ rowL l p := mem_row.2 ⟨i, by omega, by omega, by
      unfold nmAt
      rw [hx]
      simp only [hnam]
      rw [@if_pos _ (Classical.propDecidable _) hr, hk1]
      simp⟩
    have hlt := hR.down q hql (k' : Int) (by rw [hrow]; exact hmem)
    rw [Int.toNat_natCast] at hlt
    show r8 (ofC (partsL l) n).toNat * (l.length + 1) + (l.length - n) < r8 (ofC (partsL l) i).toNat * (l.length + 1) + (l.length - i)
    rw [ho', hoi, Int.toNat_natCast, Int.toNat_natCast]
    have := Nat.mul_le_mul_right (l.length + 1) (show r8 k' + 1 ≤ r8 q from hlt)
    rw [Nat.add_mul] at this
    omega
theorem costE_ok {l : List In} (h : costE l = 0) : checkI l = 0 ∧ ¬ HasBack l l.length ∧ DepthOK (callsL l) := by
  unfold costE at h
  by_cases hz : checkI l = 0
  · rw [if_pos hz] at h
    by_cases hd : depthE l = 0
    · rw [if_pos hd] at h
      by_cases hb : HasBack l l.length
      · rw [@if_pos _ (Classical.propDecidable _) hb] at h; exact absurd h (by decide)
      · refine ⟨hz, hb, (dp_ok (calls_in hz)).1 ?_⟩
        unfold depthE at hd
        rw [if_pos hz] at hd
        split at hd
        · exact absurd hd (by decide)
        · rename_i hn
          have hn : ((dpT (callsL l) (callsL l).length).1.2 || decide (8 < (dpT (callsL l) (callsL l).length).2)) = false := by
            cases hh : ((dpT (callsL l) (callsL l).length).1.2 || decide (8 < (dpT (callsL l) (callsL l).length).2)) with
            | true => exact absurd hh hn
            | false => rfl
          rw [Bool.or_eq_false_iff] at hn
          exact ⟨hn.1, by have := of_decide_eq_false hn.2; omega⟩
    · rw [if_neg hd] at h; exact absurd h (by decide)
  · rw [if_neg hz] at h; exact absurd h hz
theorem ok_costE {l : List In} (hz : checkI l = 0) (hb : ¬ HasBack l l.length) (hd : DepthOK (callsL l)) : costE l = 0 := by
  have h2 := (dp_ok (calls_in hz)).2 hd
  have hde : depthE l = 0 := by
    unfold depthE
    rw [if_pos hz, if_neg (by rw [h2.1, decide_eq_false (by omega)]; decide)]
  unfold costE
  rw [if_pos hz, if_pos hde, @if_neg _ (Classical.propDecidable _) hb]
theorem tells_of (R : RuleP) {l : List In} (h : costE l = 0) : ∃ V rk, Tells R l V rk := by
  obtain ⟨a, b, c⟩ := costE_ok h
  obtain ⟨rk, hf⟩ := falls_of a b c
  exact ⟨_, rk, tells_falls R hf⟩

theorem nocall_depth {l : List In} (h : ∀ x ∈ l, isCallB x = false) : DepthOK (callsL l) :=
  ⟨fun _ => 1, ⟨fun k _ => Nat.le_refl _, fun k hk j hj => by
    exfalso
    have hp : ∃ p, (partsL l)[k]? = some p := ⟨_, List.getElem?_eq_getElem (by rw [show (partsL l).length = (callsL l).length from (List.length_map _).symm]; exact hk)⟩
    obtain ⟨p, hp⟩ := hp
    have hrow : (callsL l).getD k [] = rowL l p := by
      unfold callsL
      rw [List.getD_eq_getElem?_getD, List.getElem?_map, hp]
      rfl
    rw [hrow] at hj
    obtain ⟨i, _, _, hi⟩ := mem_row.1 hj
    unfold nmAt at hi
    cases hx : l[i]? with
    | none => rw [hx] at hi; simp at hi
    | some x =>
      rw [hx] at hi
      have : namC i x = none := by unfold namC; rw [if_neg (by rw [h x (List.mem_of_getElem? hx)]; decide)]
      simp [this] at hi⟩, fun k _ => (by omega : (1 : Nat) ≤ 8)⟩

theorem plusN_small {a b : Nat} (h : a + b ≤ top) : plusN a b = a + b := by
  unfold plusN
  rw [if_neg]
  unfold top at *
  omega

end Go.Proofs.YtlkgmcacbfoijaaGreat

