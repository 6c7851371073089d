/- A bubble that is burst, and regenerated where it was, is as it was: plain. No condition. -/
import Derived.Test.YtmbdhpibkhgkcaaU
namespace Go.Proofs.Ytmbdhpibkhgkcaa

theorem insI_child {bs : Nat → Bk} {b : Int} : ∀ (f : Nat) (i : Nat), bs i 0 = b → b < i → insI bs b (f + 1) i = true := by
  intro f i h hlt
  unfold insI
  rw [if_pos hlt, Int.toNat_natCast, h]
  cases f with
  | zero => unfold insI; simp
  | succ f => unfold insI; rw [if_neg (by omega)]; simp

section
variable {n : Nat} {bs : Nat → Bk} {b : Nat}

/-- The bubbles behind Burst. -/
def bs2D (n : Nat) (bs : Nat → Bk) (b : Nat) : Nat → Bk := (burstD n bs b).2.2
/-- The bubbles behind Burst and Regen. -/
def bs4D (n : Nat) (bs : Nat → Bk) (b : Nat) : Nat → Bk := (regenD n (bs2D n bs b) b (bs b 18)).2.2

theorem burst_ok (hb : b < n) (h3 : bs b 17 = 3) : burstD n bs b = (0, b :: ownL (ownB (updT bs b (setO (bs b) 17 4)) b) n, bsK (ownB (updT bs b (setO (bs b) 17 4)) b) (trB (bs b 18)) (updT bs b (setO (bs b) 17 4)) n) := by
  unfold burstD
  rw [if_pos (by unfold isB; exact decide_eq_true ⟨by omega, by omega⟩), Int.toNat_natCast, if_pos h3]

theorem bs2_b (hb : b < n) (h3 : bs b 17 = 3) (hu : bs b 0 < b) : bs2D n bs b b = setO (bs b) 17 4 := by
  unfold bs2D
  rw [burst_ok hb h3]
  unfold bsK
  have : ownB (updT bs b (setO (bs b) 17 4)) b b = false := by
    unfold ownB
    rw [updT_same]
    have : (setO (bs b) 17 4 0 == (b : Int)) = false := by
      show (bs b 0 == (b : Int)) = false
      simp
      omega
    rw [this]
    rfl
  simp only [this]
  rw [if_neg (by simp), updT_same]

theorem bs2_i (hb : b < n) (h3 : bs b 17 = 3) {i : Nat} (hi : i < n) (hne : i ≠ b) : bs2D n bs b i = if ownB bs b i = true then trB (bs b 18) (bs i) else bs i := by
  unfold bs2D
  rw [burst_ok hb h3]
  unfold bsK
  have : ownB (updT bs b (setO (bs b) 17 4)) b i = ownB bs b i := by
    unfold ownB
    rw [updT_other _ _ hne]
  simp only [this, updT_other _ _ hne]
  by_cases h : ownB bs b i = true
  · rw [if_pos ⟨hi, h⟩, if_pos h]
  · rw [if_neg (fun h2 => h h2.2), if_neg h]

theorem bs2_up (hb : b < n) (h3 : bs b 17 = 3) (hu : bs b 0 < b) {i : Nat} (hi : i < n) {o : Nat} (ho : o ≠ 17) (ho2 : o ≠ 18) : bs2D n bs b i o = bs i o := by
  by_cases e : i = b
  · subst e
    rw [bs2_b hb h3 hu]
    unfold setO
    rw [if_neg ho]
  · rw [bs2_i hb h3 hi e]
    split
    · unfold trB setO
      rw [if_neg ho2, if_neg ho]
    · rfl

theorem regen_ok (hb : b < n) (h3 : bs b 17 = 3) (hu : bs b 0 < b) : regenD n (bs2D n bs b) b (bs b 18) = (0, b :: ownL (innB n (updT (bs2D n bs b) b (setO (setO (bs2D n bs b b) 17 3) 18 (bs b 18))) b) n, bsK (innB n (updT (bs2D n bs b) b (setO (setO (bs2D n bs b b) 17 3) 18 (bs b 18))) b) trR (updT (bs2D n bs b) b (setO (setO (bs2D n bs b b) 17 3) 18 (bs b 18))) n) := by
  unfold regenD
  have h4 : bs2D n bs b b 17 = 4 := by rw [bs2_b hb h3 hu]; rfl
  rw [if_pos (by unfold isB; exact decide_eq_true ⟨by omega, by omega⟩), Int.toNat_natCast, if_pos h4]

theorem bs4_b (hb : b < n) (h3 : bs b 17 = 3) (hu : bs b 0 < b) {o : Nat} (_ho : o < 19) : bs4D n bs b b o = bs b o := by
  unfold bs4D
  rw [regen_ok hb h3 hu]
  unfold bsK
  have : innB n (updT (bs2D n bs b) b (setO (setO (bs2D n bs b b) 17 3) 18 (bs b 18))) b b = false := by simp [innB]
  simp only [this]
  rw [if_neg (by simp), updT_same, bs2_b hb h3 hu]
  unfold setO
  by_cases h18 : o = 18
  · subst h18; rfl
  · rw [if_neg h18]
    by_cases h17 : o = 17
    · subst h17; rw [if_pos rfl, h3]
    · rw [if_neg h17, if_neg h17]

theorem bs4_i (hb : b < n) (h3 : bs b 17 = 3) (hu : bs b 0 < b) {i : Nat} (hi : i < n) (hne : i ≠ b) : bs4D n bs b i = if (insD n (bs2D n bs b) i b && decide (3 ≤ bs2D n bs b i 17)) = true then trR (bs2D n bs b i) else bs2D n bs b i := by
  unfold bs4D
  rw [regen_ok hb h3 hu]
  have hups : ∀ k, updT (bs2D n bs b) b (setO (setO (bs2D n bs b b) 17 3) 18 (bs b 18)) k 0 = bs2D n bs b k 0 := by
    intro k
    by_cases e : k = b
    · subst e; rw [updT_same]; rfl
    · rw [updT_other _ _ e]
  have : innB n (updT (bs2D n bs b) b (setO (setO (bs2D n bs b b) 17 3) 18 (bs b 18))) b i = (insD n (bs2D n bs b) i b && decide (3 ≤ bs2D n bs b i 17)) := by
    unfold innB
    rw [insD_congr hups, updT_other _ _ hne]
    have : ((i : Int) == (b : Int)) = false := by simp; omega
    rw [this]
    simp
  unfold bsK
  simp only [this, updT_other _ _ hne]
  by_cases h : (insD n (bs2D n bs b) i b && decide (3 ≤ bs2D n bs b i 17)) = true
  · rw [if_pos ⟨hi, h⟩, if_pos h]
  · rw [if_neg (fun h2 => h h2.2), if_neg h]

theorem bs4_up (hb : b < n) (h3 : bs b 17 = 3) (hu : bs b 0 < b) {i : Nat} (hi : i < n) {o : Nat} (ho19 : o < 19) (ho : o ≠ 17) (ho2 : o ≠ 18) : bs4D n bs b i o = bs i o := by
  by_cases e : i = b
  · subst e; exact bs4_b hb h3 hu ho19
  · rw [bs4_i hb h3 hu hi e]
    split
    · unfold trR setO
      rw [if_neg ho]
      exact bs2_up hb h3 hu hi ho ho2
    · exact bs2_up hb h3 hu hi ho ho2

/-- A state that is another one is 'sealed', of a bubble inside. -/
theorem bs4_st (hups : ∀ i, i < n → -1 ≤ bs i 0 ∧ bs i 0 < i) (hb : b < n) (h3 : bs b 17 = 3) {i : Nat} (hi : i < n) (hd : bs4D n bs b i 17 ≠ bs i 17) : bs4D n bs b i 17 = 2 ∧ insD n (bs4D n bs b) i b = true := by
  have hu := (hups b hb).2
  have hne : i ≠ b := fun e => hd (by subst e; exact bs4_b hb h3 hu (by omega))
  have hcong : ∀ k, k < n → bs4D n bs b k 0 = bs2D n bs b k 0 := fun k hk => by rw [bs4_up hb h3 hu hk (by omega) (by omega) (by omega), bs2_up hb h3 hu hk (by omega) (by omega)]
  have hins : insD n (bs4D n bs b) i b = insD n (bs2D n bs b) i b := by
    unfold insD
    have key : ∀ (f : Nat) (c : Int), c < n → insI (bs4D n bs b) b f c = insI (bs2D n bs b) b f c := by
      intro f
      induction f with
      | zero => intro c _; rfl
      | succ f ih =>
        intro c hc
        unfold insI
        by_cases hbc : (b : Int) < c
        · have hcn : c.toNat < n := by omega
          rw [if_pos hbc, if_pos hbc, hcong c.toNat hcn]
          have h1 := (hups c.toNat hcn).2
          have h2 := bs2_up hb h3 hu hcn (o := 0) (by omega) (by omega)
          exact ih _ (by omega)
        · rw [if_neg hbc, if_neg hbc]
    rw [key _ _ (by omega)]
  rw [bs4_i hb h3 hu hi hne] at hd ⊢
  rw [hins]
  by_cases hin : (insD n (bs2D n bs b) i b && decide (3 ≤ bs2D n bs b i 17)) = true
  · rw [if_pos hin]
    exact ⟨rfl, (Bool.and_eq_true_iff.1 hin).1⟩
  · rw [if_neg hin] at hd
    rw [bs2_i hb h3 hi hne] at hd
    by_cases ho : ownB bs b i = true
    · exfalso
      apply hin
      have ho2 : bs i 0 = b ∧ bs i 17 = 2 := by
        unfold ownB at ho
        simpa using ho
      have h1 : bs2D n bs b i 17 = 3 := by rw [bs2_i hb h3 hi hne, if_pos ho]; rfl
      have h0 : bs2D n bs b i 0 = (b : Int) := by rw [bs2_up hb h3 hu hi (by omega) (by omega)]; exact ho2.1
      have hlt : (b : Int) < i := by have := (hups i hi).2; omega
      have : insD n (bs2D n bs b) i b = true := by
        unfold insD
        have e1 : isB n (i : Int) = true := by unfold isB; exact decide_eq_true ⟨by omega, by omega⟩
        have e2 : isB n (b : Int) = true := by unfold isB; exact decide_eq_true ⟨by omega, by omega⟩
        rw [e1, e2, show ((i : Int) + 1).toNat = i + 1 by omega, insI_child i i h0 hlt]
        rfl
      rw [this, h1]
      rfl
    · rw [if_neg ho] at hd
      exact absurd rfl hd
end
end Go.Proofs.Ytmbdhpibkhgkcaa
