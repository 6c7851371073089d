/- A bubble's workers are among those of the one in which it lies; what lies in one that isn't burst is neither placed nor burst: plain. No condition. -/
import Derived.Test.YtmbdhpibkhgkcaaZc
import Derived.Test.YtmbdhpibkhgkcaaZf
namespace Go.Proofs.Ytmbdhpibkhgkcaa

/-! ### Words -/
theorem u64_small {v : Nat} (h : v < 2 ^ 64) : IntKind.u64.wrap (v : Int) = v := by
  unfold IntKind.wrap
  simp [IntKind.bits, IntKind.signed]
  omega
theorem bit_nat (v m : Nat) : (((v : Int) / 2 ^ m) % 2 == 1) = v.testBit m := by
  rw [Nat.testBit_eq_decide_div_mod_eq]
  have h1 : (v : Int) / 2 ^ m = ((v / 2 ^ m : Nat) : Int) := by
    rw [Int.natCast_ediv, Int.natCast_pow]
    rfl
  rw [h1]
  by_cases h : v / 2 ^ m % 2 = 1
  · rw [decide_eq_true h]
    simp only [beq_iff_eq]
    omega
  · rw [decide_eq_false h]
    simp only [beq_eq_false_iff_ne, ne_eq]
    omega
theorem and_nn (x y : Int) : 0 ≤ bits .and .u64 x y ∧ bits .and .u64 x y < 2 ^ 64 := by
  have h : bits .and .u64 x y = ((BitVec.ofInt 64 x &&& BitVec.ofInt 64 y).toNat : Int) := by
    unfold bits
    exact u64_small (BitVec.isLt _)
  rw [h]
  have := BitVec.isLt (BitVec.ofInt 64 x &&& BitVec.ofInt 64 y)
  omega
theorem bit_and {x : Int} (y : Int) (h0 : 0 ≤ x) (h1 : x < 2 ^ 64) {m : Nat} (hm : m < 64) : ((bits .and .u64 x y / 2 ^ m) % 2 == 1) = ((x / 2 ^ m % 2 == 1) && (BitVec.ofInt 64 y).getLsbD m) := by
  obtain ⟨v, rfl⟩ := Int.eq_ofNat_of_zero_le h0
  have h : bits .and .u64 (v : Int) y = ((BitVec.ofInt 64 (v : Int) &&& BitVec.ofInt 64 y).toNat : Int) := by
    unfold bits
    exact u64_small (BitVec.isLt _)
  have hv : v < 2 ^ 64 := by omega
  rw [h, bit_nat, bit_nat]
  rw [BitVec.testBit_toNat, BitVec.getLsbD_and]
  have e : (BitVec.ofInt 64 (v : Int)).getLsbD m = v.testBit m := by
    rw [BitVec.ofInt_natCast, BitVec.getLsbD_ofNat]
    simp [hm]
  rw [e]

def bw (t : Ws) (x : Nat) : Bool := (BitVec.ofInt 64 (t (x / 64))).getLsbD (x % 64)
def InR (s : Ws) : Prop := ∀ o, 0 ≤ s o ∧ s o < 2 ^ 64
theorem andW_in (s t : Ws) : InR (andW s t) := fun o => and_nn _ _
theorem has_and {s : Ws} (t : Ws) (h : InR s) (x : Nat) : hasW (andW s t) x = (hasW s x && bw t x) := by
  unfold hasW andW bw
  exact bit_and _ (h _).1 (h _).2 (Nat.mod_lt _ (by omega))

/-! ### Masks -/
def pathB (n : Nat) (bs : Nat → Bk) (x : Nat) : Nat → Int → Bool
  | 0, _ => true
  | f + 1, b => if isB n b = true then bw (maskOf (bs b.toNat)) x && pathB n bs x f (bs b.toNat 0) else true
theorem pathB_no {n : Nat} {bs : Nat → Bk} {x : Nat} {b : Int} (h : ¬ isB n b = true) (f : Nat) : pathB n bs x f b = true := by
  cases f with
  | zero => rfl
  | succ f => unfold pathB; rw [if_neg h]
theorem has_maskI (n : Nat) (bs : Nat → Bk) (x : Nat) : ∀ (f : Nat) (b : Int) (s : Ws), InR s → hasW (maskI n bs f b s) x = (hasW s x && pathB n bs x f b)
  | 0, _, s, _ => by simp [maskI, pathB]
  | f + 1, b, s, h => by
    unfold maskI pathB
    by_cases hb : isB n b = true
    · rw [if_pos hb, if_pos hb, has_maskI n bs x f _ _ (andW_in _ _), has_and _ h, Bool.and_assoc]
    · rw [if_neg hb, if_neg hb]
      simp
theorem maskI_in (n : Nat) (bs : Nat → Bk) : ∀ (f : Nat) (b : Int) (s : Ws), InR s → InR (maskI n bs f b s)
  | 0, _, _, h => h
  | f + 1, b, s, h => by
    unfold maskI
    by_cases hb : isB n b = true
    · rw [if_pos hb]; exact maskI_in n bs f _ _ (andW_in _ _)
    · rw [if_neg hb]; exact h
theorem all_in : InR wsAll := fun _ => by unfold wsAll; omega
theorem mask_in_range (n : Nat) (bs : Nat → Bk) (b : Int) : InR (maskD n bs b) := maskI_in n bs _ _ _ all_in
theorem pathB_fuel {n : Nat} {bs : Nat → Bk} (hu : Ups n bs) (x : Nat) : ∀ (f g : Nat) (b : Int), b < f → b < g → pathB n bs x f b = pathB n bs x g b
  | 0, g, b, h1, _ => by
    have hb : ¬ isB n b = true := fun h => by have := isB_iff.1 h; omega
    cases g with
    | zero => rfl
    | succ g => unfold pathB; rw [if_neg hb]
  | f + 1, g, b, h1, h2 => by
    by_cases hb : isB n b = true
    · have hi := isB_iff.1 hb
      cases g with
      | zero => omega
      | succ g =>
        unfold pathB
        rw [if_pos hb, if_pos hb]
        have := hu b.toNat (by omega)
        rw [pathB_fuel hu x f g _ (by omega) (by omega)]
    · rw [pathB_no hb, pathB_no hb]
theorem mask_sub {n : Nat} {bs : Nat → Bk} (hu : Ups n bs) {i : Nat} (hi : i < n) (h0 : 0 ≤ bs i 0) (x : Nat) (h : hasW (maskD n bs i) x = true) : hasW (maskD n bs (bs i 0)) x = true := by
  unfold maskD at h ⊢
  rw [has_maskI _ _ _ _ _ _ all_in] at h ⊢
  have hup := hu i hi
  rw [show ((i : Int) + 1).toNat = i + 1 by omega] at h
  unfold pathB at h
  rw [if_pos (isB_iff.2 ⟨by omega, by omega⟩), Int.toNat_natCast] at h
  rw [Bool.and_eq_true, Bool.and_eq_true] at h
  rw [pathB_fuel hu x ((bs i 0) + 1).toNat i _ (by omega) (by omega), h.1, h.2.2]
  rfl
/-- Those in the first set alone: none. -/
theorem only_none {n : Nat} {bs : Nat → Bk} (hu : Ups n bs) {i : Nat} (hi : i < n) (h0 : 0 ≤ bs i 0) (k : Nat) : (List.range k).filter (fun x => hasW (maskD n bs i) x && !hasW (maskD n bs (bs i 0)) x) = [] := by
  rw [List.filter_eq_nil_iff]
  intro x _ hx
  rw [Bool.and_eq_true] at hx
  rw [mask_sub hu hi h0 x hx.1] at hx
  exact absurd hx.2 (by simp)

/-! ### States -/
/-- What lies in a bubble that isn't burst is neither placed nor burst. -/
def Inn (n : Nat) (bs : Nat → Bk) : Prop := Ups n bs ∧ ∀ i, i < n → 0 ≤ bs i 0 → bs (bs i 0).toNat 17 ≠ 4 → bs i 17 < 3

theorem inn_make {n : Nat} {bs : Nat → Bk} (h : Inn n bs) (up : Int) (m : Ws) : Inn (makeD n bs up m).2.2.1 (makeD n bs up m).2.2.2 := by
  unfold makeD
  split
  · exact h
  · rename_i h1
    split
    · exact h
    · split
      · exact h
      · split
        · exact h
        · have hu : up = -1 ∨ (0 ≤ up ∧ up < n) := by omega
          refine ⟨fun i hi => ?_, fun i hi h0 h4 => ?_⟩
          · by_cases e : i = n
            · subst e
              show -1 ≤ updT bs i (newB up m) i 0 ∧ updT bs i (newB up m) i 0 < i
              rw [updT_same]
              show -1 ≤ up ∧ up < i
              omega
            · show -1 ≤ updT bs n (newB up m) i 0 ∧ updT bs n (newB up m) i 0 < i
              rw [updT_other _ _ e]
              exact h.1 i (by simp only at hi; omega)
          · simp only at hi h0 h4 ⊢
            by_cases e : i = n
            · subst e
              rw [updT_same]
              show (1 : Int) < 3
              omega
            · rw [updT_other _ _ e] at h0 h4 ⊢
              have hup := h.1 i (by omega)
              rw [updT_other _ _ (by omega)] at h4
              exact h.2 i (by omega) h0 h4

/-- One bubble's state turned. -/
theorem inn_upd {n : Nat} {bs : Nat → Bk} (h : Inn n bs) {b : Nat} (_hb : b < n) (t : Bk) (h0 : t 0 = bs b 0)
    (h1 : 0 ≤ bs b 0 → bs (bs b 0).toNat 17 ≠ 4 → t 17 < 3) (h2 : t 17 ≠ 4 → bs b 17 ≠ 4 ∨ ∀ i, i < n → bs i 0 = b → bs i 17 < 3) : Inn n (updT bs b t) := by
  have hups : ∀ k, updT bs b t k 0 = bs k 0 := fun k => by
    by_cases e : k = b
    · subst e; rw [updT_same, h0]
    · rw [updT_other _ _ e]
  refine ⟨fun i hi => by rw [hups]; exact h.1 i hi, fun i hi g0 g4 => ?_⟩
  rw [hups] at g0 g4
  have hup := h.1 i hi
  by_cases e : i = b
  · subst e
    rw [updT_same]
    rw [updT_other _ _ (by omega)] at g4
    exact h1 g0 g4
  · rw [updT_other _ _ e]
    by_cases e2 : (bs i 0).toNat = b
    · rw [e2, updT_same] at g4
      rcases h2 g4 with h3 | h3
      · exact h.2 i hi g0 (by rw [e2]; exact h3)
      · exact h3 i hi (by omega)
    · rw [updT_other _ _ e2] at g4
      exact h.2 i hi g0 g4

theorem inn_seal {n : Nat} {bs : Nat → Bk} (h : Inn n bs) (b : Int) : Inn n (sealD n bs b).2 := by
  unfold sealD
  split
  · rename_i hb
    have hi := isB_iff.1 hb
    split
    · rename_i h1
      exact inn_upd h (by omega) _ rfl (fun _ _ => by show (2 : Int) < 3; omega) (fun _ => .inl (by omega))
    · exact h
  · exact h
theorem inn_place {n : Nat} {bs : Nat → Bk} (h : Inn n bs) (b home : Int) : Inn n (placeD n bs b home).2 := by
  unfold placeD
  split
  · rename_i hb
    have hi := isB_iff.1 hb
    split
    · rename_i h1
      split
      · exact h
      · rename_i h2
        exact inn_upd h (by omega) _ rfl (fun g0 g4 => absurd ⟨by omega, g4⟩ h2) (fun _ => .inl (by omega))
    · exact h
  · exact h
theorem inn_burst {n : Nat} {bs : Nat → Bk} (h : Inn n bs) (b : Int) : Inn n (burstD n bs b).2.2 := by
  unfold burstD
  split
  · rename_i hb
    have hi := isB_iff.1 hb
    obtain ⟨b, rfl⟩ := Int.eq_ofNat_of_zero_le hi.1
    rw [Int.toNat_natCast]
    split
    · rename_i h3
      have hbn : b < n := by omega
      have hu := h.1 b hbn
      show Inn n (bsK (ownB (updT bs b (setO (bs b) 17 4)) b) (trB (bs b 18)) (updT bs b (setO (bs b) 17 4)) n)
      have e0 : bsK (ownB (updT bs b (setO (bs b) 17 4)) b) (trB (bs b 18)) (updT bs b (setO (bs b) 17 4)) n = bs2D n bs b := by
        unfold bs2D
        rw [burst_ok hbn h3]
      rw [e0]
      refine ⟨fun i hi => by rw [bs2_up hbn h3 hu.2 hi (by omega) (by omega)]; exact h.1 i hi, fun i hi g0 g4 => ?_⟩
      rw [bs2_up hbn h3 hu.2 hi (by omega) (by omega)] at g0 g4
      have hup := h.1 i hi
      have hpn : (bs i 0).toNat < n := by omega
      by_cases e : i = b
      · subst e
        exfalso
        rw [bs2_i hbn h3 hpn (by omega)] at g4
        have h5 : bs (bs i 0).toNat 17 = 4 := Classical.byContradiction fun hne => by have := h.2 i hbn g0 hne; omega
        have h6 : ownB bs i (bs i 0).toNat = false := by
          unfold ownB
          have : (bs (bs i 0).toNat 17 == 2) = false := by rw [h5]; rfl
          rw [this, Bool.and_false]
        rw [h6, if_neg (by simp)] at g4
        exact g4 h5
      · by_cases e2 : (bs i 0).toNat = b
        · rw [e2, bs2_b hbn h3 hu.2] at g4
          exact absurd rfl g4
        · rw [bs2_i hbn h3 hpn e2] at g4
          rw [bs2_i hbn h3 hi e]
          have h7 : ownB bs b i = false := by
            unfold ownB
            have : (bs i 0 == (b : Int)) = false := by simp; omega
            rw [this]
            rfl
          rw [h7, if_neg (by simp)]
          refine h.2 i hi g0 fun h5 => ?_
          have h6 : ownB bs b (bs i 0).toNat = false := by
            unfold ownB
            have : (bs (bs i 0).toNat 17 == 2) = false := by rw [h5]; rfl
            rw [this, Bool.and_false]
          rw [h6, if_neg (by simp)] at g4
          exact g4 h5
    · exact h
  · exact h

theorem insI_fuel {n : Nat} {bs : Nat → Bk} (hu : Ups n bs) {b : Nat} : ∀ (f g : Nat) (c : Int), c < f → c < g → c < n → insI bs b f c = insI bs b g c
  | 0, g, c, h1, _, _ => by rw [insI_no (by omega), insI_no (by omega)]
  | f + 1, 0, c, _, h2, _ => by rw [insI_no (by omega), insI_no (by omega)]
  | f + 1, g + 1, c, h1, h2, h3 => by
    by_cases hc : (b : Int) < c
    · unfold insI
      rw [if_pos hc, if_pos hc]
      have := hu c.toNat (by omega)
      exact insI_fuel hu f g _ (by omega) (by omega) (by omega)
    · rw [insI_no hc, insI_no hc]
theorem insD_at {n : Nat} {bs : Nat → Bk} {i b : Nat} (hi : i < n) (hb : b < n) : insD n bs i b = insI bs b (i + 1) i := by
  unfold insD
  rw [isB_iff.2 ⟨by omega, by omega⟩, isB_iff.2 ⟨by omega, by omega⟩, show ((i : Int) + 1).toNat = i + 1 by omega]
  rfl
theorem insD_low {n : Nat} {bs : Nat → Bk} {i b : Nat} (hi : i < n) (hb : b < n) (h : i < b) : insD n bs i b = false := by
  rw [insD_at hi hb, insI_no (by omega)]
  simp
  omega
theorem insD_up {n : Nat} {bs : Nat → Bk} (hu : Ups n bs) {i b : Nat} (hi : i < n) (hb : b < n) (h0 : 0 ≤ bs i 0) (h : insD n bs i b = false) : (bs i 0).toNat ≠ b ∧ insD n bs (bs i 0).toNat b = false ∨ i = b := by
  have hup := hu i hi
  by_cases hlt : b < i
  · left
    have hpn : (bs i 0).toNat < n := by omega
    rw [insD_at hi hb] at h
    unfold insI at h
    rw [if_pos (by omega), Int.toNat_natCast, insI_fuel hu i ((bs i 0).toNat + 1) _ (by omega) (by omega) (by omega)] at h
    have h2 : insD n bs (bs i 0).toNat b = false := by
      rw [insD_at hpn hb]
      rw [show (((bs i 0).toNat : Nat) : Int) = bs i 0 by omega]
      exact h
    refine ⟨fun e => ?_, h2⟩
    rw [e, insD_at hb hb, insI_no (by omega)] at h2
    simp at h2
  · by_cases e : i = b
    · exact .inr e
    · left
      have hpn : (bs i 0).toNat < n := by omega
      exact ⟨by omega, insD_low hpn hb (by omega)⟩

theorem inn_regen {n : Nat} {bs : Nat → Bk} (h : Inn n bs) (b home : Int) : Inn n (regenD n bs b home).2.2 := by
  unfold regenD
  split
  · rename_i hb
    have hi := isB_iff.1 hb
    obtain ⟨b, rfl⟩ := Int.eq_ofNat_of_zero_le hi.1
    rw [Int.toNat_natCast]
    split
    · rename_i h4b
      have hbn : b < n := by omega
      have hub := h.1 b hbn
      obtain ⟨X, hX⟩ : ∃ X, X = updT bs b (setO (setO (bs b) 17 3) 18 home) := ⟨_, rfl⟩
      show Inn n (bsK (innB n (updT bs b (setO (setO (bs b) 17 3) 18 home)) b) trR (updT bs b (setO (setO (bs b) 17 3) 18 home)) n)
      rw [← hX]
      have hXu : ∀ k, X k 0 = bs k 0 := fun k => by
        rw [hX]
        by_cases e : k = b
        · subst e; rw [updT_same]; rfl
        · rw [updT_other _ _ e]
      have hXo : ∀ k, k ≠ b → X k = bs k := fun k e => by rw [hX, updT_other _ _ e]
      have hXb : X b 17 = 3 := by rw [hX, updT_same]; rfl
      have hu : ∀ k, bsK (innB n X b) trR X n k 0 = bs k 0 := fun k => by rw [bsK_up, hXu]
      have hno : ∀ k, k < n → insD n bs k b = false → k ≠ b → bsK (innB n X b) trR X n k = bs k := fun k hk hin hne => by
        unfold bsK
        have : innB n X b k = false := by
          unfold innB
          rw [insD_congr hXu, hin, Bool.and_false, Bool.false_and]
        rw [this, if_neg (by simp), hXo k hne]
      refine ⟨fun i hi => by rw [hu]; exact h.1 i hi, fun i hi g0 g4 => ?_⟩
      rw [hu] at g0 g4
      have hup := h.1 i hi
      have hpn : (bs i 0).toNat < n := by omega
      by_cases hin : innB n X b i = true
      · unfold bsK
        rw [if_pos ⟨hi, hin⟩]
        show (2 : Int) < 3
        omega
      · have hnew : bsK (innB n X b) trR X n i = X i := by
          unfold bsK
          rw [if_neg (fun hh => hin hh.2)]
        rw [hnew]
        by_cases e : i = b
        · subst e
          exfalso
          rw [hno _ hpn (insD_low hpn hbn (by omega)) (by omega)] at g4
          have := h.2 i hbn g0 g4
          omega
        · rw [hXo i e]
          apply Classical.byContradiction
          intro hge
          have hins : insD n bs i b = false := by
            cases hh : insD n bs i b with
            | false => rfl
            | true =>
              exfalso
              apply hin
              unfold innB
              have : ((i : Int) == (b : Int)) = false := by simp; omega
              rw [insD_congr hXu, hh, this, hXo i e]
              simp
              omega
          rcases insD_up h.1 hi hbn g0 hins with ⟨h5, h6⟩ | h5
          · rw [hno _ hpn h6 h5] at g4
            exact hge (h.2 i hi g0 g4)
          · exact e h5
    · exact h
  · exact h

theorem inn_do {n : Nat} {bs : Nat → Bk} (h : Inn n bs) (o : Opn) : Inn (doD n bs o).1 (doD n bs o).2 := by
  unfold doD
  split
  · exact inn_make h _ _
  · split
    · exact inn_seal h _
    · split
      · exact inn_place h _ _
      · split
        · exact inn_burst h _
        · exact inn_regen h _ _
theorem inn_run (e : Nat → Opn) : ∀ k, Inn (runD e k).1 (runD e k).2
  | 0 => ⟨fun _ (h : _ < 0) => absurd h (Nat.not_lt_zero _), fun _ (h : _ < 0) => absurd h (Nat.not_lt_zero _)⟩
  | k + 1 => inn_do (inn_run e k) (e k)
end Go.Proofs.Ytmbdhpibkhgkcaa
