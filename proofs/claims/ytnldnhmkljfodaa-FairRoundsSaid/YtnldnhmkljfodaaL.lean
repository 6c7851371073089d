/- A part of the proof that a round of any workers is even: the counts and the gaps of a round, in plain Lean. No condition. -/
import Derived.Test.YtnldnhmkljfodaaK
namespace Go.Proofs.Ytnldnhmkljfodaa

/-- The entries of a round. -/
def rnd (c : Nat → Int) (m : Nat) : Nat → E := fun i => stepE (c (i % m))

theorem isB_rnd {c : Nat → Int} {m : Nat} (hm : 0 < m) (hd : ∀ i, i < m → ∀ j, j < i → c i ≠ c j) (i j : Nat) (hj : j < m) : isB (rnd c m i) (c j) = decide (i % m = j) := by
  have hi : i % m < m := Nat.mod_lt _ hm
  by_cases h : i % m = j
  · simp [isB, rnd, stepE, h]
  · have : c (i % m) ≠ c j := by
      rcases Nat.lt_or_gt_of_ne h with h1 | h1
      · exact (hd j hj _ h1).symm
      · exact hd _ hi _ h1
    simp [isB, rnd, stepE, h, this]

theorem cnt_rnd {c : Nat → Int} {m : Nat} (hm : 0 < m) (hd : ∀ i, i < m → ∀ j, j < i → c i ≠ c j) (j : Nat) (hj : j < m) : ∀ n, cnt (rnd c m) n (c j) = n / m + if j < n % m then 1 else 0 := by
  intro n
  induction n with
  | zero => simp [cnt]
  | succ n ih =>
    rw [cnt_succ, ih, isB_rnd hm hd n j hj]
    have h1 := Nat.div_add_mod n m
    have hr : n % m < m := Nat.mod_lt _ hm
    by_cases hlast : n % m + 1 = m
    · have hn : n + 1 = m * (n / m + 1) := by rw [Nat.mul_add]; omega
      have e1 : (n + 1) / m = n / m + 1 := by rw [hn]; exact Nat.mul_div_cancel_left _ hm
      have e2 : (n + 1) % m = 0 := by rw [hn]; exact Nat.mul_mod_right _ _
      rw [e1, e2]
      by_cases hjr : j < n % m
      · have : n % m ≠ j := by omega
        simp [hjr, this]
      · have : n % m = j := by omega
        simp [this]
    · have hn : n + 1 = n % m + 1 + m * (n / m) := by omega
      have e1 : (n + 1) / m = n / m := by
        rw [hn, Nat.add_mul_div_left _ _ hm, Nat.div_eq_of_lt (by omega)]; omega
      have e2 : (n + 1) % m = n % m + 1 := by
        rw [hn, Nat.add_mul_mod_self_left, Nat.mod_eq_of_lt (by omega)]
      rw [e1, e2]
      by_cases hjr : j < n % m
      · have h2 : n % m ≠ j := by omega
        have h3 : j < n % m + 1 := by omega
        simp [hjr, h2, h3]
      · by_cases h2 : n % m = j
        · have h3 : j < n % m + 1 := by omega
          simp [h2]
        · have h3 : ¬ j < n % m + 1 := by omega
          simp [hjr, h2, h3]

theorem cnt_even {c : Nat → Int} {m : Nat} (hm : 0 < m) (hd : ∀ i, i < m → ∀ j, j < i → c i ≠ c j) (n j : Nat) (hj : j < m) :
    n / m ≤ cnt (rnd c m) n (c j) ∧ cnt (rnd c m) n (c j) ≤ n / m + 1 := by
  rw [cnt_rnd hm hd j hj]
  split <;> omega

/-- Where each B and 1 of a row, one behind the other, have a true one, no gap is above B. -/
theorem gapsGo_window (f : Nat → Bool) (B total : Nat) (hw : ∀ t, t + B + 1 ≤ total → ∃ i, t ≤ i ∧ i ≤ t + B ∧ f i = true) :
    ∀ (len s n : Nat), s + len = total → n ≤ s → (∀ j, s - n ≤ j → j < s → f j = false) → ∀ x ∈ gapsGo ((List.range' s len).map f) n, x ≤ B := by
  intro len
  have hn : ∀ s n : Nat, s ≤ total → n ≤ s → (∀ j, s - n ≤ j → j < s → f j = false) → n ≤ B := by
    intro s n hs hn hf
    rcases Nat.lt_or_ge B n with h | h
    · obtain ⟨i, h1, h2, h3⟩ := hw (s - n) (by omega)
      rw [hf i h1 (by omega)] at h3
      cases h3
    · exact h
  induction len with
  | zero =>
    intro s n hs hns hf x hx
    simp [gapsGo] at hx
    subst hx
    exact hn s _ (by omega) hns hf
  | succ len ih =>
    intro s n hs hns hf x hx
    rw [List.range'_succ, List.map_cons] at hx
    cases hfs : f s with
    | true =>
      rw [hfs] at hx
      simp only [gapsGo, List.mem_cons] at hx
      rcases hx with rfl | hx
      · exact hn s _ (by omega) hns hf
      · exact ih (s + 1) 0 (by omega) (by omega) (fun j h1 h2 => by omega) x hx
    | false =>
      rw [hfs] at hx
      simp only [gapsGo] at hx
      refine ih (s + 1) (n + 1) (by omega) (by omega) (fun j h1 h2 => ?_) x hx
      by_cases h : j = s
      · rw [h]; exact hfs
      · exact hf j (by omega) (by omega)

theorem gapsGo_first (f : Nat → Bool) : ∀ (k s len n : Nat), k < len → (∀ j, j < k → f (s + j) = false) → f (s + k) = true → n + k ∈ gapsGo ((List.range' s len).map f) n := by
  intro k
  induction k with
  | zero =>
    intro s len n hk _ ht
    obtain ⟨len, rfl⟩ : ∃ l, len = l + 1 := ⟨len - 1, by omega⟩
    rw [List.range'_succ, List.map_cons, show f s = true from ht]
    simp [gapsGo]
  | succ k ih =>
    intro s len n hk hf ht
    obtain ⟨len, rfl⟩ : ∃ l, len = l + 1 := ⟨len - 1, by omega⟩
    rw [List.range'_succ, List.map_cons, show f s = false from hf 0 (by omega)]
    simp only [gapsGo]
    have := ih (s + 1) len (n + 1) (by omega) (fun j hj => by have := hf (j + 1) (by omega); rwa [show s + 1 + j = s + (j + 1) from by omega]) (by rwa [show s + 1 + k = s + (k + 1) from by omega])
    rwa [show n + (k + 1) = n + 1 + k from by omega]

theorem le_most {l : List Nat} {x : Nat} (h : x ∈ l) : x ≤ most l := by
  unfold most
  have : ∀ (l : List Nat) (a x : Nat), (x ∈ l ∨ x ≤ a) → x ≤ l.foldl max a := by
    intro l
    induction l with
    | nil => intro a x h; simpa using h
    | cons y l ih =>
      intro a x h
      refine ih _ _ ?_
      rcases h with h | h
      · rcases List.mem_cons.1 h with rfl | h
        · exact .inr (by omega)
        · exact .inl h
      · exact .inr (by omega)
  exact this l 0 x (.inl h)

/-- The window of a round. -/
theorem maxGap_rnd {c : Nat → Int} {m : Nat} (hm : 0 < m) (hd : ∀ i, i < m → ∀ j, j < i → c i ≠ c j) (n : Nat) (hn : m ≤ n) : maxGap (rnd c m) n c m + 1 = m := by
  have hsteps : ∀ j, j < m → steps (rnd c m) n (c j) = (List.range' 0 n).map fun i => decide (i % m = j) := by
    intro j hj
    simp only [steps, List.range_eq_range']
    exact List.map_congr_left fun i _ => isB_rnd hm hd i j hj
  have hup : maxGap (rnd c m) n c m ≤ m - 1 := by
    refine most_le fun x hx => ?_
    obtain ⟨j, hj, rfl⟩ := List.mem_map.1 hx
    have hj : j < m := by simpa using hj
    refine most_le fun y hy => ?_
    rw [hsteps j hj] at hy
    refine gapsGo_window (fun i => decide (i % m = j)) (m - 1) n ?_ n 0 0 (by omega) (by omega) (fun j h1 h2 => by omega) y hy
    intro t ht
    have hr : t % m < m := Nat.mod_lt _ hm
    have h1 := Nat.div_add_mod t m
    by_cases h : t % m ≤ j
    · refine ⟨m * (t / m) + j, by omega, by omega, ?_⟩
      simp [Nat.mul_add_mod, Nat.mod_eq_of_lt hj]
    · refine ⟨m * (t / m + 1) + j, by rw [Nat.mul_add]; omega, by rw [Nat.mul_add]; omega, ?_⟩
      simp [Nat.mul_add_mod, Nat.mod_eq_of_lt hj]
  have hlo : m - 1 ≤ maxGap (rnd c m) n c m := by
    have h1 : gapOf (rnd c m) n (c (m - 1)) ≤ maxGap (rnd c m) n c m := le_most (List.mem_map.2 ⟨m - 1, by simp; omega, rfl⟩)
    refine Nat.le_trans ?_ h1
    unfold gapOf
    rw [hsteps (m - 1) (by omega)]
    have := gapsGo_first (fun i => decide (i % m = m - 1)) (m - 1) 0 n 0 (by omega) (fun j hj => by simp [Nat.mod_eq_of_lt (by omega : j < m)]; omega) (by simp [Nat.mod_eq_of_lt (by omega : m - 1 < m)])
    rw [Nat.zero_add] at this
    exact le_most this
  omega
end Go.Proofs.Ytnldnhmkljfodaa
