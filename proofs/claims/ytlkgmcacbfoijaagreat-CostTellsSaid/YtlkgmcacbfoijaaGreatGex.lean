import Derived.Test.YtlkgmcacbfoijaaGreatZbe
set_option linter.unusedSimpArgs false
set_option linter.unusedVariables false
namespace Go.Proofs.YtlkgmcacbfoijaaGreat

/-! ### the document's Depth: what its rounds come to (plain) -/
theorem rx1_mono (k : Nat) (s : DS) (j : Int) (i : Nat) : s.1.getD i 0 ≤ (rx1 k s j).1.getD i 0 := by
  unfold rx1
  split
  · rename_i h
    show _ ≤ (s.1.set k _).getD i 0
    by_cases hk : k < s.1.length
    · rw [getD_set _ _ _ hk]
      split
      · rename_i e; subst e; omega
      · exact Int.le_refl _
    · rw [List.set_eq_of_length_le (by omega)]
      exact Int.le_refl _
  · exact Int.le_refl _
theorem rxK_mono (k : Nat) : ∀ (js : List Int) (s : DS) (i : Nat), s.1.getD i 0 ≤ (rxK k js s).1.getD i 0
  | [], _, _ => Int.le_refl _
  | j :: js, s, i => Int.le_trans (rx1_mono k s j i) (by rw [rxK_cons]; exact rxK_mono k js _ i)
theorem rxR_mono (L : List (List Int)) : ∀ (m : Nat) (s : DS) (i : Nat), s.1.getD i 0 ≤ (rxR L m s).1.getD i 0
  | 0, _, _ => Int.le_refl _
  | m + 1, s, i => by rw [rxR_succ]; exact Int.le_trans (rxR_mono L m s i) (rxK_mono _ _ _ i)
theorem rxN_one (L : List (List Int)) : ∀ (r k : Nat), k < L.length → 1 ≤ (rxN L r).getD k 0
  | 0, k, hk => by
    unfold rxN
    rw [List.getD_eq_getElem?_getD, List.getElem?_replicate, if_pos hk]
    exact Int.le_refl _
  | r + 1, k, hk => Int.le_trans (rxN_one L r k hk) (rxR_mono L L.length (rxN L r, false) k)
/-- a bound of all numbers -/
def Bm (B : Int) (D : List Int) : Prop := ∀ k, D.getD k 0 ≤ B
theorem Bm.rx1 {B : Int} {s : DS} (h : Bm B s.1) (hB : 0 ≤ B) (k : Nat) (j : Int) : Bm (B + 1) (rx1 k s j).1 := fun i => by
  unfold Proofs.YtlkgmcacbfoijaaGreat.rx1
  split
  · show (s.1.set k _).getD i 0 ≤ _
    by_cases hk : k < s.1.length
    · rw [getD_set _ _ _ hk]
      have h1 := h j.toNat
      have h2 := h i
      split <;> omega
    · rw [List.set_eq_of_length_le (by omega)]
      have h2 := h i
      omega
  · have h2 := h i
    omega
theorem Bm.mono {B C : Int} {D : List Int} (h : Bm B D) (hc : B ≤ C) : Bm C D := fun k => Int.le_trans (h k) hc
theorem Bm.rxK (k : Nat) : ∀ (js : List Int) {B : Int} {s : DS}, Bm B s.1 → 0 ≤ B → Bm (B + js.length) (rxK k js s).1
  | [], B, s, h, _ => h.mono (by simp)
  | j :: js, B, s, h, hB => by
    rw [rxK_cons]
    exact (Bm.rxK k js (h.rx1 hB k j) (by omega)).mono (by simp only [List.length_cons]; omega)
theorem Bm.rxR {L : List (List Int)} (hr : ∀ js ∈ L, js.length ≤ 1000000) : ∀ (m : Nat) {B : Int} {s : DS}, Bm B s.1 → 0 ≤ B → Bm (B + m * 1000000) (rxR L m s).1
  | 0, B, s, h, _ => h.mono (by simp)
  | m + 1, B, s, h, hB => by
    rw [rxR_succ]
    have hl : (L.getD m []).length ≤ 1000000 := by
      rw [List.getD_eq_getElem?_getD]
      cases e : L[m]? with
      | none => simp
      | some js => exact hr js (List.mem_of_getElem? e)
    exact (Bm.rxK m _ (Bm.rxR hr m h hB) (by omega)).mono (by omega)
theorem Bm.rxN {L : List (List Int)} (hr : ∀ js ∈ L, js.length ≤ 1000000) (hl : L.length ≤ 64) : ∀ (r : Nat), Bm (1 + r * 64000000) (rxN L r)
  | 0 => fun k => by
    unfold Proofs.YtlkgmcacbfoijaaGreat.rxN
    rw [List.getD_eq_getElem?_getD, List.getElem?_replicate]
    split <;> simp
  | r + 1 => ((Bm.rxR hr L.length (s := (Proofs.YtlkgmcacbfoijaaGreat.rxN L r, false)) (Bm.rxN hr hl r) (by omega))).mono (by omega)
/-- pigeons -/
theorem pigeons : ∀ (n m : Nat) (f : Nat → Nat), (∀ v, v < m → ∃ i, i < n ∧ f i = v) → m ≤ n
  | 0, m, f, h => by
    rcases Nat.eq_zero_or_pos m with e | e
    · omega
    · obtain ⟨i, hi, _⟩ := h 0 e
      omega
  | n + 1, m, f, h => by
    by_cases hv : f n < m
    · have := pigeons n (m - 1) (fun i => if f i = m - 1 then f n else f i) (fun v hv2 => by
        obtain ⟨i, hi, he⟩ := h v (by omega)
        by_cases e : i = n
        · subst e
          obtain ⟨i2, hi2, he2⟩ := h (m - 1) (by omega)
          have : i2 ≠ i := fun e => by subst e; omega
          exact ⟨i2, by omega, by show (if f i2 = m - 1 then f i else f i2) = v; rw [if_pos he2, he]⟩
        · exact ⟨i, by omega, by show (if f i = m - 1 then f n else f i) = v; rw [if_neg (by omega), he]⟩)
      omega
    · have := pigeons n m f (fun v hv2 => by
        obtain ⟨i, hi, he⟩ := h v hv2
        have : i ≠ n := fun e => by subst e; omega
        exact ⟨i, by omega, he⟩)
      omega
/-- the levels -/
def mxL (xs : List Int) : Int := xs.foldl max 0
theorem mx_le : ∀ (xs : List Int) (a : Int), a ≤ xs.foldl max a ∧ ∀ x ∈ xs, x ≤ xs.foldl max a
  | [], a => ⟨Int.le_refl _, fun x hx => by simp at hx⟩
  | y :: xs, a => by
    obtain ⟨h1, h2⟩ := mx_le xs (max a y)
    rw [List.foldl_cons]
    refine ⟨by omega, fun x hx => ?_⟩
    rcases List.mem_cons.1 hx with rfl | hx
    · omega
    · exact h2 x hx
theorem mx_is : ∀ (xs : List Int) (a : Int), xs.foldl max a = a ∨ ∃ x ∈ xs, xs.foldl max a = x
  | [], a => .inl rfl
  | y :: xs, a => by
    rw [List.foldl_cons]
    rcases mx_is xs (max a y) with h | ⟨x, hx, h⟩
    · rw [h]
      rcases Int.le_total a y with h1 | h1
      · exact .inr ⟨y, by simp, by omega⟩
      · exact .inl (by omega)
    · exact .inr ⟨x, by simp [hx], h⟩
def lamF (L : List (List Int)) : Nat → Nat → Int
  | 0, _ => 1
  | f + 1, k => 1 + mxL ((L.getD k []).map fun j => lamF L f j.toNat)
theorem lamF_pos (L : List (List Int)) : ∀ f k, 1 ≤ lamF L f k
  | 0, _ => Int.le_refl _
  | f + 1, k => by
    have := (mx_le ((L.getD k []).map fun j => lamF L f j.toNat) 0).1
    unfold lamF mxL
    omega
theorem lamF_stable {L : List (List Int)} (hL : InL L) {rk : Nat → Nat} (hr : Rank L rk) : ∀ (f k : Nat), k < L.length → rk k ≤ f → lamF L (f + 1) k = lamF L f k
  | 0, k, hk, h => by have := hr.pos k hk; omega
  | f + 1, k, hk, h => by
    show 1 + mxL _ = 1 + mxL _
    congr 2
    refine List.map_congr_left fun j hj => ?_
    have := hL.at_ j hj
    have := hr.down k hk j hj
    exact lamF_stable hL hr f j.toNat (by omega) (by omega)
theorem lev_of {L : List (List Int)} (hL : InL L) {rk : Nat → Nat} (hr : Rank L rk) (h8 : ∀ k, k < L.length → rk k ≤ 8) : Lev L (lamF L 8) := by
  have hst : ∀ k, k < L.length → ∀ j ∈ L.getD k [], lamF L 7 j.toNat = lamF L 8 j.toNat := fun k hk j hj => by
    have := hL.at_ j hj
    have := hr.down k hk j hj
    have := h8 k hk
    exact (lamF_stable hL hr 7 j.toNat (by omega) (by omega)).symm
  refine ⟨fun k _ => lamF_pos L 8 k, fun k hk j hj => ?_, fun k hk => ?_⟩
  · rw [← hst k hk j hj]
    have := (mx_le ((L.getD k []).map fun j => lamF L 7 j.toNat) 0).2 _ (List.mem_map_of_mem hj)
    have e : lamF L 8 k = 1 + mxL ((L.getD k []).map fun j => lamF L 7 j.toNat) := rfl
    rw [e]
    unfold mxL
    omega
  · have e : lamF L 8 k = 1 + mxL ((L.getD k []).map fun j => lamF L 7 j.toNat) := rfl
    rcases mx_is ((L.getD k []).map fun j => lamF L 7 j.toNat) 0 with h | ⟨x, hx, h⟩
    · refine .inl ?_
      rw [e]
      unfold mxL
      omega
    · obtain ⟨j, hj, rfl⟩ := List.mem_map.1 hx
      refine .inr ⟨j, hj, ?_⟩
      rw [e, ← hst k hk j hj]
      unfold mxL
      omega
theorem lev_le {L : List (List Int)} (hL : InL L) {lam : Nat → Int} (h : Lev L lam) (k : Nat) (hk : k < L.length) : lam k ≤ L.length := by
  have hd : ∀ (d : Nat) (v : Int), 1 ≤ v → lam k - v = d → ∃ i, i < L.length ∧ lam i = v := by
    intro d
    induction d with
    | zero => exact fun v hv e => ⟨k, hk, by omega⟩
    | succ d ih =>
      intro v hv e
      obtain ⟨i, hi, he⟩ := ih (v + 1) (by omega) (by omega)
      rcases h.tight i hi with h1 | ⟨j, hj, h1⟩
      · omega
      · have := hL.at_ j hj
        exact ⟨j.toNat, by omega, by omega⟩
  have h1 := h.one k hk
  have := pigeons L.length (lam k).toNat (fun i => (lam i).toNat - 1) (fun v hv => by
    obtain ⟨i, hi, he⟩ := hd (lam k - (v + 1)).toNat (v + 1) (by omega) (by omega)
    exact ⟨i, hi, by show (lam i).toNat - 1 = v; omega⟩)
  omega
theorem rxN_low {L : List (List Int)} (hL : InL L) {lam : Nat → Int} (h : Lev L lam) : ∀ (r k : Nat), k < L.length → min (lam k) (r + 1) ≤ (rxN L r).getD k 0
  | 0, k, hk => by
    have := rxN_one L 0 k hk
    omega
  | r + 1, k, hk => by
    rcases h.tight k hk with h1 | ⟨j, hj, h1⟩
    · have := rxN_one L (r + 1) k hk
      omega
    · have hjl := hL.at_ j hj
      have h2 := rxN_low hL h r j.toNat (by omega)
      have h3 : (rxN L r).getD j.toNat 0 + 1 ≤ (rxN L (r + 1)).getD k 0 := rxR_got hL h.down L.length (rxN L r, false) (rxN_len L hL r) (Nat.le_refl _) k hk j hj
      omega
theorem rxN_hi {L : List (List Int)} (hL : InL L) {lam : Nat → Int} (h1 : ∀ k, k < L.length → 1 ≤ lam k) (hv : ∀ k, k < L.length → ∀ j ∈ L.getD k [], lam j.toNat + 1 ≤ lam k) : ∀ (r k : Nat), k < L.length → (rxN L r).getD k 0 ≤ lam k
  | 0, k, hk => by
    have := h1 k hk
    unfold rxN
    rw [List.getD_eq_getElem?_getD, List.getElem?_replicate, if_pos hk]
    exact this
  | r + 1, k, hk => by
    have hl := rxN_len L hL r
    exact (rxR_up hL hv L.length (rxN L r, false) hl (Nat.le_refl _)).hi (fun i hi => rxN_hi hL h1 hv r i (Nat.lt_of_lt_of_eq hi hl)) k (by show k < (rxN L r).length; omega)
/-- nothing changes where all are below -/
theorem rxK_still (k : Nat) : ∀ (js : List Int) (s : DS), (∀ j ∈ js, s.1.getD j.toNat 0 + 1 ≤ s.1.getD k 0) → rxK k js s = s
  | [], _, _ => rfl
  | j :: js, s, h => by
    have h1 : rx1 k s j = s := by
      unfold rx1
      rw [if_neg (by have := h j (by simp); omega)]
    rw [rxK_cons, h1]
    exact rxK_still k js s (fun x hx => h x (by simp [hx]))
theorem rxR_still (L : List (List Int)) : ∀ (m : Nat) (s : DS), (∀ k, k < m → ∀ j ∈ L.getD k [], s.1.getD j.toNat 0 + 1 ≤ s.1.getD k 0) → rxR L m s = s
  | 0, _, _ => rfl
  | m + 1, s, h => by
    rw [rxR_succ, rxR_still L m s (fun k hk => h k (by omega))]
    exact rxK_still m _ s (h m (by omega))
/-- with a depth the rounds come to an end -/
theorem rx_ends {L : List (List Int)} (hL : InL L) (h : DepthOK L) : (rxR L L.length (rxN L L.length, false)).2 = false := by
  obtain ⟨rk, hr, h8⟩ := h
  have hv := lev_of hL hr h8
  have he : ∀ k, k < L.length → (rxN L L.length).getD k 0 = lamF L 8 k := fun k hk => by
    have h1 := rxN_low hL hv L.length k hk
    have h2 := rxN_hi hL hv.one hv.down L.length k hk
    have h3 := lev_le hL hv k hk
    omega
  rw [rxR_still L L.length (rxN L L.length, false) (fun k hk j hj => by
    have := hL.at_ j hj
    show (rxN L L.length).getD j.toNat 0 + 1 ≤ (rxN L L.length).getD k 0
    rw [he k hk, he j.toNat (by omega)]
    exact hv.down k hk j hj)]
/-- where a round changes nothing, the highest number tells -/
theorem rx_tells {L : List (List Int)} (hL : InL L) {r : Nat} (h : (rxR L L.length (rxN L r, false)).2 = false) : mxL (rxN L r) ≤ 8 ↔ DepthOK L := by
  obtain ⟨_, _, hd⟩ := rxR_flag L.length _ h
  have hl := rxN_len L hL r
  constructor
  · intro h8
    have hb : ∀ k, k < L.length → (rxN L r).getD k 0 ≤ 8 := fun k hk => by
      have := (mx_le (rxN L r) 0).2 ((rxN L r).getD k 0) (by
        rw [List.getD_eq_getElem?_getD, List.getElem?_eq_getElem (by omega)]
        exact List.getElem_mem _)
      unfold mxL at h8
      omega
    refine ⟨fun k => ((rxN L r).getD k 0).toNat, ⟨fun k hk => ?_, fun k hk j hj => ?_⟩, fun k hk => ?_⟩
    · have := rxN_one L r k hk
      show 1 ≤ ((rxN L r).getD k 0).toNat
      omega
    · have h1 := hd k hk j hj
      have h1 : (rxN L r).getD j.toNat 0 + 1 ≤ (rxN L r).getD k 0 := h1
      have := hL.at_ j hj
      have h2 := rxN_one L r j.toNat (by omega)
      show ((rxN L r).getD j.toNat 0).toNat < ((rxN L r).getD k 0).toNat
      omega
    · have := hb k hk
      show ((rxN L r).getD k 0).toNat ≤ 8
      omega
  · rintro ⟨rk, hr, h8⟩
    have hu := rxN_hi (lam := fun k => (rk k : Int)) hL (fun k hk => by have := hr.pos k hk; show (1 : Int) ≤ (rk k : Int); omega) (fun k hk j hj => by
      have := hr.down k hk j hj
      show (rk j.toNat : Int) + 1 ≤ (rk k : Int)
      omega) r
    rcases mx_is (rxN L r) 0 with e | ⟨x, hx, e⟩
    · unfold mxL; omega
    · obtain ⟨k, hk, rfl⟩ := List.getElem_of_mem hx
      have h1 := hu k (by omega)
      have h2 := h8 k (by omega)
      rw [List.getD_eq_getElem?_getD, List.getElem?_eq_getElem hk] at h1
      have h1 : (rxN L r)[k] ≤ (rk k : Int) := h1
      unfold mxL
      omega

end Go.Proofs.YtlkgmcacbfoijaaGreat

