/- The row of layer 29, with the steps of each party counted. No condition. -/
import Derived.Test.YthhcmilijiccmaaP
namespace Go.Proofs.Ythhcmilijiccmaa

/-- What is counted of a party: its steps since it took. -/
def TkOk (L : Lock) (tk : Nat → Int) : Prop := ∀ i, i < L.n → (L.ps i).state = 1 → ((L.ps i).step ≤ 4 → tk i = (L.ps i).step - 1) ∧ ((L.ps i).step = 5 → 4 ≤ tk i)

def put1 (tk : Nat → Int) (i : Nat) (v : Int) : Nat → Int := fun j => if j = i then v else tk j

theorem take_n (L : Lock) (i : Nat) : (L.take i).n = L.n := by
  unfold Lock.take; repeat' split
  all_goals simp
theorem give_n (L : Lock) (i : Nat) : (L.give i).n = L.n := by
  unfold Lock.give; repeat' split
  all_goals simp

theorem take_other (L : Lock) {i j : Nat} (hj : j ≠ i) : ((L.take i).ps j).state = (L.ps j).state ∧ ((L.take i).ps j).step = (L.ps j).step := by
  unfold Lock.take; repeat' split
  all_goals simp only [Lock.ps_setP, Lock.setT_ps, hj, if_false, and_self]
  split <;> simp_all

theorem give_other (L : Lock) {i j : Nat} (hj : j ≠ i) : ((L.give i).ps j).state = (L.ps j).state ∧ ((L.give i).ps j).step = (L.ps j).step := by
  unfold Lock.give; repeat' split
  all_goals simp only [Lock.ps_setP, Lock.setT_ps, hj, if_false, and_self]
  split <;> simp_all

theorem take_self (L : Lock) {i : Nat} (h1 : 1 ≤ (L.ps i).step) (h4 : (L.ps i).step ≤ 4) : ((L.take i).ps i).step = (L.ps i).step + 1 := by
  unfold Lock.take; repeat' split
  all_goals (try simp only [Lock.ps_setP, Lock.setT_ps, if_true])
  all_goals omega

theorem take_self5 (L : Lock) {i : Nat} (h5 : (L.ps i).step = 5) (hs : ((L.take i).ps i).state = 1) : ((L.take i).ps i).step = 5 := by
  have e : L.take i = if (L.ps i).waits then L else L.setP i { L.ps i with state := 2, step := (L.ps i).step + 1 } := by
    unfold Lock.take
    rw [if_neg (by omega), if_neg (by omega), if_neg (by omega), if_neg (by omega)]
  rw [e] at hs ⊢
  cases hw : (L.ps i).waits with
  | true => simp only [if_true]; exact h5
  | false =>
    rw [hw] at hs
    simp [Lock.setP_same] at hs

theorem TkOk.take {L : Lock} {tk : Nat → Int} (h : TkOk L tk) (ok : L.Ok) {i : Nat} (hs : (L.ps i).state = 1) (hi : i < L.n) : TkOk (L.take i) (put1 tk i (tk i + 1)) := by
  intro j hj hsj
  rw [take_n] at hj
  have h1 := (ok.ps i).taking hs
  by_cases e : j = i
  · subst e
    have h0 := h j hi hs
    simp only [put1, if_true]
    by_cases h4 : (L.ps j).step ≤ 4
    · rw [take_self L h1.1 h4]
      have := h0.1 h4
      exact ⟨fun _ => by omega, fun _ => by omega⟩
    · have h5 : (L.ps j).step = 5 := by omega
      have := h0.2 h5
      rw [take_self5 L h5 hsj]
      exact ⟨fun _ => by omega, fun _ => by omega⟩
  · obtain ⟨e1, e2⟩ := take_other L e
    rw [e1] at hsj
    rw [e2]
    simp only [put1, e, if_false]
    exact h j hj hsj

theorem TkOk.step {L : Lock} {tk : Nat → Int} (h : TkOk L tk) (ok : L.Ok) {Q : List Nat} (hI : Inv L Q) (who : Int) (hw : L.stateOf who ≠ 1) :
    ∃ Q', Inv (L.step who).2.2 Q' ∧ rowOf (L.step who).2.2 Q' = rowOf L Q ∧ TkOk (L.step who).2.2 tk := by
  unfold Lock.step
  split
  case isFalse => exact ⟨Q, hI, rfl, h⟩
  rename_i hh
  obtain ⟨h0, h1⟩ := Lock.has_iff.1 hh
  have hi : who.toNat < L.n := by omega
  unfold Lock.stateOf at hw
  rw [if_pos hh] at hw
  split
  case isFalse => exact ⟨Q, hI, rfl, h⟩
  rename_i hs
  have hs3 : (L.ps who.toNat).state = 3 := by omega
  generalize who.toNat = i at *
  unfold Lock.stepAt
  rw [if_neg hw, if_pos hs3]
  obtain ⟨Q', h2, h3, -⟩ := hI.give ok hi hs3
  refine ⟨Q', h2, h3, fun j hj hsj => ?_⟩
  rw [give_n] at hj
  by_cases e : j = i
  · subst e
    exfalso
    have h1 := (ok.ps j).giving hs3
    unfold Lock.give at hsj
    revert hsj
    repeat' split
    all_goals simp only [Lock.ps_setP, Lock.setT_ps, if_true]
    all_goals omega
  · obtain ⟨e1, e2⟩ := give_other L e
    rw [e1] at hsj
    rw [e2]
    exact h j hj hsj

theorem TkOk.takes {L : Lock} {tk : Nat → Int} (h : TkOk L tk) {i : Nat} (hi : i < L.n) (h0 : (L.ps i).state = 0) : TkOk (L.put i 1) (put1 tk i 0) := by
  intro j hj hsj
  unfold Lock.put at *
  by_cases e : j = i
  · subst e
    rw [Lock.setP_same]
    simp [put1]
  · rw [Lock.setP_other _ _ e] at *
    simp only [put1, e, if_false]
    exact h j hj hsj

theorem TkOk.gives {L : Lock} {tk : Nat → Int} (h : TkOk L tk) (who : Int) : TkOk (L.call who 2).2 tk := by
  unfold Lock.call
  split
  case isFalse => exact h
  split
  case isFalse => exact h
  intro j hj hsj
  unfold Lock.put at *
  by_cases e : j = who.toNat
  · subst e
    rw [Lock.setP_same] at hsj
    exact absurd hsj (by simp)
  · rw [Lock.setP_other _ _ e] at *
    exact h j hj hsj

theorem TkOk.three {L : Lock} {tk : Nat → Int} (h : TkOk L tk) (ok : L.Ok) {i : Nat} (hi : i < L.n) (hs : (L.ps i).state = 1) : tk i + 1 = 3 ↔ (L.ps i).step = 3 := by
  have h0 := h i hi hs
  have h1 := (ok.ps i).taking hs
  by_cases h4 : (L.ps i).step ≤ 4
  · have := h0.1 h4; omega
  · have := h0.2 (by omega); omega

theorem stateOf_one {L : Lock} {who : Int} (h : L.stateOf who = 1) : ∃ i : Nat, who = i ∧ i < L.n ∧ (L.ps i).state = 1 ∧ L.has who = true := by
  unfold Lock.stateOf at h
  split at h
  · rename_i hh
    obtain ⟨h0, h1⟩ := Lock.has_iff.1 hh
    obtain ⟨i, rfl⟩ := Int.eq_ofNat_of_zero_le h0
    exact ⟨i, rfl, by omega, by simpa using h, hh⟩
  · omega

theorem stateOf_has {L : Lock} {i : Nat} (h : i < L.n) : L.stateOf i = (L.ps i).state := by
  have : L.has i = true := Lock.has_iff.2 ⟨by omega, by omega⟩
  simp [Lock.stateOf, this]

theorem take_states {L : Lock} (ok : L.Ok) {i : Nat} (hi : i < L.n) (hs : (L.ps i).state = 1) : L.step i = (((L.take i).ps i).state != 1, 0, L.take i) := by
  have : L.has i = true := Lock.has_iff.2 ⟨by omega, by omega⟩
  simp [Lock.step, this, Lock.stepAt, hs]

/-- How many below k are inside or giving. -/
def cntIn (L : Lock) : Nat → Nat
  | 0 => 0
  | k + 1 => if 2 ≤ L.stateOf k then cntIn L k + 1 else cntIn L k

theorem two_le_stateOf {L : Lock} {k : Nat} (h : 2 ≤ L.stateOf k) : k < L.n ∧ 2 ≤ (L.ps k).state := by
  unfold Lock.stateOf at h
  split at h
  · rename_i hh
    have := Lock.has_iff.1 hh
    exact ⟨by omega, by simpa using h⟩
  · omega

theorem Inv.cnt {L : Lock} {Q : List Nat} (h : Inv L Q) : ∀ k, cntIn L k = 0 ∨ (cntIn L k = 1 ∧ ∃ i, i < k ∧ i < L.n ∧ 2 ≤ (L.ps i).state)
  | 0 => .inl rfl
  | k + 1 => by
    unfold cntIn
    by_cases h2 : 2 ≤ L.stateOf k
    · rw [if_pos h2]
      obtain ⟨h3, h4⟩ := two_le_stateOf h2
      rcases h.cnt k with e | ⟨e, i, h5, h6, h7⟩
      · exact .inr ⟨by omega, k, by omega, h3, h4⟩
      · have := h.one h6 h3 h7 h4
        omega
    · rw [if_neg h2]
      rcases h.cnt k with e | ⟨e, i, h5, h6, h7⟩
      · exact .inl e
      · exact .inr ⟨e, i, by omega, h6, h7⟩

theorem Inv.cnt_le {L : Lock} {Q : List Nat} (h : Inv L Q) (k : Nat) : cntIn L k ≤ 1 := by
  rcases h.cnt k with e | ⟨e, -⟩ <;> omega

theorem len_le : ∀ (n : Nat) (l : List Nat), l.Nodup → (∀ i ∈ l, i < n) → l.length ≤ n
  | 0, l, _, h => by
    cases l with
    | nil => simp
    | cons a r => exact absurd (h a (by simp)) (by omega)
  | n + 1, l, hn, h => by
    by_cases hm : n ∈ l
    · have h1 := len_le n (l.erase n) (hn.erase n) (fun i hi => by
        have h2 := (hn.mem_erase_iff).1 hi
        have := h i h2.2
        have := h2.1
        omega)
      rw [List.length_erase_of_mem hm] at h1
      omega
    · have := len_le n l hn (fun i hi => by
        have := h i hi
        have : i ≠ n := by rintro rfl; exact hm hi
        omega)
      omega

theorem Inv.len {L : Lock} {Q : List Nat} (h : Inv L Q) : Q.length ≤ L.n := len_le _ _ h.nodup h.lt

theorem rowOf_len (L : Lock) (Q : List Nat) : (rowOf L Q).length ≤ Q.length := by
  cases Q with
  | nil => simp [rowOf_nil]
  | cons a r => rw [rowOf_cons]; split <;> simp
end Go.Proofs.Ythhcmilijiccmaa
