/- The row of layer 29, when all go on: it empties. No condition. -/
import Derived.Test.YthhcmilijiccmaaX
namespace Go.Proofs.Ythhcmilijiccmaa

/-- One party goes on: it gives if it is inside, and steps. -/
def sub (L : Lock) (who : Nat) : Lock := ((if L.stateOf who = 2 then (L.call who 2).2 else L).step who).2.2

/-- All that wait are linked. -/
def Linked (L : Lock) : Prop := ∀ i, i < L.n → (L.ps i).state = 1 → (L.ps i).step = 5

def hh (p : Party) : Nat :=
  if p.state = 1 then 5 else if p.state = 2 then 4 else if p.step = 3 then 1 else if p.step = 1 then 2 else if p.next = -1 then 1 else 3

theorem hh_pos (p : Party) : 1 ≤ hh p ∧ hh p ≤ 5 := by unfold hh; (repeat' split) <;> omega

def phi (L : Lock) : List Nat → Nat
  | [] => 0
  | a :: r => 5 * r.length + hh (L.ps a)

theorem phi_le (L : Lock) (Q : List Nat) : phi L Q ≤ 5 * Q.length := by
  cases Q with
  | nil => simp [phi]
  | cons a r => have := hh_pos (L.ps a); simp only [phi, List.length_cons]; omega

theorem phi_zero {L : Lock} {Q : List Nat} (h : phi L Q = 0) : Q = [] := by
  cases Q with
  | nil => rfl
  | cons a r => have := hh_pos (L.ps a); simp only [phi] at h; omega

theorem has_lt {L : Lock} {i : Nat} (h : i < L.n) : L.has i = true := Lock.has_iff.2 ⟨by omega, by omega⟩

theorem sub_none {L : Lock} {i : Nat} (h : ¬ i < L.n) : sub L i = L := by
  have hf : L.has i = false := by
    cases e : L.has i with
    | false => rfl
    | true => have := Lock.has_iff.1 e; omega
  unfold sub
  have : L.stateOf i = -1 := by simp [Lock.stateOf, hf]
  rw [if_neg (by omega)]
  simp [Lock.step, hf]

theorem step_self {L : Lock} {i : Nat} (h : i < L.n) : (L.step i).2.2 = L.stepAt i := by
  unfold Lock.step
  rw [if_pos (has_lt h)]
  simp only [Int.toNat_natCast]
  split
  · rfl
  · rename_i hs
    unfold Lock.stepAt
    rw [if_neg (by omega), if_neg (by omega)]

theorem sub_0 {L : Lock} {i : Nat} (h : i < L.n) (hs : (L.ps i).state = 0) : sub L i = L := by
  unfold sub
  rw [stateOf_has h, if_neg (by omega), step_self h]
  unfold Lock.stepAt
  rw [if_neg (by omega), if_neg (by omega)]

theorem sub_1 {L : Lock} {i : Nat} (h : i < L.n) (hs : (L.ps i).state = 1) : sub L i = L.take i := by
  unfold sub
  rw [stateOf_has h, if_neg (by omega), step_self h]
  unfold Lock.stepAt
  rw [if_pos hs]

theorem sub_3 {L : Lock} {i : Nat} (h : i < L.n) (hs : (L.ps i).state = 3) : sub L i = L.give i := by
  unfold sub
  rw [stateOf_has h, if_neg (by omega), step_self h]
  unfold Lock.stepAt
  rw [if_neg (by omega), if_pos hs]

theorem call_2 {L : Lock} {i : Nat} (h : i < L.n) (hs : (L.ps i).state = 2) : (L.call i 2).2 = L.put i 3 := by
  unfold Lock.call
  rw [if_pos (has_lt h)]
  simp [hs]

theorem sub_2 {L : Lock} {i : Nat} (h : i < L.n) (hs : (L.ps i).state = 2) : sub L i = (L.put i 3).give i := by
  unfold sub
  rw [stateOf_has h, if_pos hs, call_2 h hs]
  have h' : i < (L.put i 3).n := h
  rw [step_self h']
  unfold Lock.stepAt
  have : ((L.put i 3).ps i).state = 3 := by simp [Lock.put, Lock.setP_same]
  rw [if_neg (by omega), if_pos this]

theorem sub_ok {L : Lock} (ok : L.Ok) (i : Nat) : (sub L i).Ok := by
  unfold sub
  split
  · exact (ok.call i (.inr rfl)).step i
  · exact ok.step i

theorem states {L : Lock} (ok : L.Ok) (i : Nat) : (L.ps i).state = 0 ∨ (L.ps i).state = 1 ∨ (L.ps i).state = 2 ∨ (L.ps i).state = 3 := by
  have := (ok.ps i).state; omega

theorem sub_n {L : Lock} (ok : L.Ok) (i : Nat) : (sub L i).n = L.n := by
  by_cases h : i < L.n
  · rcases states ok i with e | e | e | e
    · rw [sub_0 h e]
    · rw [sub_1 h e, take_n]
    · rw [sub_2 h e, give_n]; rfl
    · rw [sub_3 h e, give_n]
  · rw [sub_none h]

theorem sub_inv {L : Lock} (ok : L.Ok) {Q : List Nat} (h : Inv L Q) (i : Nat) : ∃ Q', Inv (sub L i) Q' := by
  by_cases hi : i < L.n
  · rcases states ok i with e | e | e | e
    · rw [sub_0 hi e]; exact ⟨Q, h⟩
    · rw [sub_1 hi e]; obtain ⟨Q', h1, -⟩ := h.take ok hi e; exact ⟨Q', h1⟩
    · rw [sub_2 hi e]
      have h2 := (h.call i 2 (.inr rfl)).1
      rw [call_2 hi e] at h2
      obtain ⟨Q', h1, -⟩ := h2.give (ok.put i (.inr rfl)) (i := i) hi (by simp [Lock.put, Lock.setP_same])
      exact ⟨Q', h1⟩
    · rw [sub_3 hi e]; obtain ⟨Q', h1, -⟩ := h.give ok hi e; exact ⟨Q', h1⟩
  · rw [sub_none hi]; exact ⟨Q, h⟩

theorem sub_other {L : Lock} (ok : L.Ok) {i j : Nat} (hj : j ≠ i) : ((sub L i).ps j).state = (L.ps j).state ∧ ((sub L i).ps j).step = (L.ps j).step := by
  by_cases h : i < L.n
  · rcases states ok i with e | e | e | e
    · rw [sub_0 h e]; exact ⟨rfl, rfl⟩
    · rw [sub_1 h e]; exact take_other L hj
    · rw [sub_2 h e]
      have := give_other (L.put i 3) hj
      simp only [Lock.put, Lock.setP_other _ _ hj] at this
      exact this
    · rw [sub_3 h e]; exact give_other L hj
  · rw [sub_none h]; exact ⟨rfl, rfl⟩

theorem give_no1 {L : Lock} {i : Nat} (hs : (L.ps i).state = 3) : ((L.give i).ps i).state ≠ 1 := by
  unfold Lock.give
  repeat' split
  all_goals simp only [Lock.ps_setP, Lock.setT_ps, if_true]
  all_goals omega

theorem sub_own {L : Lock} (ok : L.Ok) {i : Nat} (hi : i < L.n) (hs : ((sub L i).ps i).state = 1) :
    (L.ps i).state = 1 ∧ ((L.ps i).step ≤ 4 → ((sub L i).ps i).step = (L.ps i).step + 1) ∧ ((L.ps i).step = 5 → ((sub L i).ps i).step = 5) := by
  rcases states ok i with e | e | e | e
  · rw [sub_0 hi e] at hs; omega
  · rw [sub_1 hi e] at hs ⊢
    have h1 := (ok.ps i).taking e
    exact ⟨e, fun h4 => take_self L h1.1 h4, fun h5 => take_self5 L h5 hs⟩
  · rw [sub_2 hi e] at hs
    exact absurd hs (give_no1 (by simp [Lock.put, Lock.setP_same]))
  · rw [sub_3 hi e] at hs
    exact absurd hs (give_no1 e)

theorem Linked.sub {L : Lock} (ok : L.Ok) (h : Linked L) (i : Nat) : Linked (sub L i) := by
  intro j hj hs
  rw [sub_n ok] at hj
  by_cases e : j = i
  · subst e
    obtain ⟨h1, -, h2⟩ := sub_own ok hj hs
    exact h2 (h j hj h1)
  · obtain ⟨e1, e2⟩ := sub_other ok e
    rw [e1] at hs
    rw [e2]
    exact h j hj hs

/-- One that is not the first one stands still. -/
theorem sub_still {L : Lock} (ok : L.Ok) (hl : Linked L) {a : Nat} {r : List Nat} (h : Inv L (a :: r)) {i : Nat} (hia : i ≠ a) : sub L i = L := by
  by_cases hi : i < L.n
  · rcases states ok i with e | e | e | e
    · exact sub_0 hi e
    · rw [sub_1 hi e]
      have h5 := hl i hi e
      have hm := (h.mem i hi).2 (.inl ⟨e, by omega⟩)
      have hw := (h.line.2.2.each i ((List.mem_cons.1 hm).resolve_left hia)).2.1
      unfold Lock.take
      rw [if_neg (by omega), if_neg (by omega), if_neg (by omega), if_neg (by omega), if_pos hw]
    · obtain ⟨r', e'⟩ := h.first hi (by omega)
      simp at e'
      exact absurd e'.1.symm hia
    · obtain ⟨r', e'⟩ := h.first hi (by omega)
      simp at e'
      exact absurd e'.1.symm hia
  · exact sub_none hi

theorem sub_empty {L : Lock} (ok : L.Ok) (hl : Linked L) (h : Inv L []) (i : Nat) : sub L i = L ∧ L.stateOf i ≤ 0 := by
  by_cases hi : i < L.n
  · have hm : ¬ (((L.ps i).state = 1 ∧ 4 ≤ (L.ps i).step) ∨ 2 ≤ (L.ps i).state) := fun e => by simpa using (h.mem i hi).2 e
    have h0 : (L.ps i).state = 0 := by
      rcases states ok i with e | e | e | e
      · exact e
      · have := hl i hi e; omega
      · omega
      · omega
    exact ⟨sub_0 hi h0, by rw [stateOf_has hi]; omega⟩
  · refine ⟨sub_none hi, ?_⟩
    unfold Lock.stateOf
    split
    · rename_i hh
      have := Lock.has_iff.1 hh
      omega
    · omega

theorem give_phi {L : Lock} (ok : L.Ok) (hl : Linked L) {a : Nat} {r : List Nat} (h : Inv L (a :: r)) (hs : (L.ps a).state = 3) : ∃ Q', Inv (L.give a) Q' ∧ phi (L.give a) Q' < phi L (a :: r) := by
  have ha := h.lt a (by simp)
  obtain ⟨Q', h1, -, h2⟩ := h.give ok ha hs
  refine ⟨Q', h1, ?_⟩
  have hp := hh_pos (L.ps a)
  rcases h2 with rfl | ⟨r', e, rfl⟩
  · have hm := (h1.mem a (by rw [give_n]; exact ha)).1 (by simp)
    have hgv := (ok.ps a).giving hs
    simp only [phi]
    suffices hh ((L.give a).ps a) < hh (L.ps a) by omega
    have hline := h.line
    revert hm
    unfold Lock.give
    by_cases s1 : (L.ps a).step = 1
    · rw [if_pos s1, Lock.setP_same]
      intro _
      unfold hh
      simp only [hs, s1]
      by_cases hn : (L.ps a).next = -1 <;> simp [hn]
    · rw [if_neg s1]
      by_cases s2 : (L.ps a).step = 2
      · rw [if_pos s2]
        by_cases ht : L.tail = a
        · rw [if_pos ht]
          simp only [Lock.setT_ps, Lock.setP_same]
          intro hm
          simp at hm
        · rw [if_neg ht, Lock.setP_same]
          intro _
          have hn : (L.ps a).next ≠ -1 := by
            intro hn
            cases r with
            | nil =>
              have := hline.1
              simp only [endOf] at this
              exact ht this
            | cons b r =>
              have h3 := hline.2.2
              unfold Links at h3
              have hb := hl b (h.lt b (by simp)) h3.1.1
              rcases h3.1.2.2 with e | e
              · omega
              · omega
          unfold hh
          simp [hs, s2, hn]
      · rw [if_neg s2]
        simp only [Lock.setP_same]
        intro hm
        simp at hm
  · simp at e
    subst e
    have := phi_le (L.give a) r
    have e2 : phi L (a :: r) = 5 * r.length + hh (L.ps a) := rfl
    omega

/-- The first one goes on. -/
theorem sub_phi {L : Lock} (ok : L.Ok) (hl : Linked L) {a : Nat} {r : List Nat} (h : Inv L (a :: r)) : ∃ Q', Inv (sub L a) Q' ∧ phi (sub L a) Q' < phi L (a :: r) := by
  have ha := h.lt a (by simp)
  have hhd := h.line.2.1
  rcases states ok a with e | e | e | e
  · unfold Head at hhd; omega
  · rw [sub_1 ha e]
    have hw : (L.ps a).waits = false := by
      unfold Head at hhd
      rcases hhd with h1 | h1 | h1
      · exact h1.2.2
      · omega
      · omega
    have h5 := hl a ha e
    have et : L.take a = L.setP a { L.ps a with state := 2, step := (L.ps a).step + 1 } := by
      unfold Lock.take
      rw [if_neg (by omega), if_neg (by omega), if_neg (by omega), if_neg (by omega), if_neg (by rw [hw]; simp)]
    obtain ⟨h1, -⟩ := h.setHead (p := { L.ps a with state := 2, step := (L.ps a).step + 1 }) rfl (by simp) (by simp)
    rw [et]
    refine ⟨_, h1, ?_⟩
    simp only [phi, Lock.setP_same]
    unfold hh
    simp [e]
  · rw [sub_2 ha e]
    have h2 := (h.call a 2 (.inr rfl)).1
    rw [call_2 ha e] at h2
    obtain ⟨Q', h3, h4⟩ := give_phi (ok.put a (.inr rfl)) (fun j hj hs => by
      by_cases e' : j = a
      · subst e'; simp [Lock.put, Lock.setP_same] at hs
      · simp only [Lock.put, Lock.setP_other _ _ e'] at hs ⊢; exact hl j hj hs) h2 (by simp [Lock.put, Lock.setP_same])
    refine ⟨Q', h3, ?_⟩
    refine Nat.lt_of_lt_of_le h4 ?_
    simp only [phi, Lock.put, Lock.setP_same]
    unfold hh
    simp [e]
  · rw [sub_3 ha e]
    exact give_phi ok hl h e

/-- Behind t rounds and k more parties. -/
def Rd (t k : Nat) (L : Lock) : Prop :=
  (t < 4 ∧ (∃ Q, Inv L Q) ∧ ∀ i, i < L.n → (L.ps i).state = 1 → (t : Int) + 1 + (if i < k then 1 else 0) ≤ (L.ps i).step) ∨
  (4 ≤ t ∧ Linked L ∧ ∃ Q, Inv L Q ∧ phi L Q ≤ 84 - t ∧ (phi L Q < 84 - t ∨ 84 - t = 0 ∨ ∃ a r, Q = a :: r ∧ k ≤ a))

theorem Rd.start {L : Lock} (ok : L.Ok) {Q : List Nat} (h : Inv L Q) : Rd 0 0 L := by
  refine .inl ⟨by omega, ⟨Q, h⟩, fun i _ hs => ?_⟩
  have := (ok.ps i).taking hs
  simp
  omega

theorem Rd.sub {L : Lock} (ok : L.Ok) {t k : Nat} (h : Rd t k L) : Rd t (k + 1) (sub L k) := by
  rcases h with ⟨ht, ⟨Q, hQ⟩, hp⟩ | ⟨ht, hl, Q, hQ, hb, hc⟩
  · refine .inl ⟨ht, sub_inv ok hQ k, fun i hi hs => ?_⟩
    rw [sub_n ok] at hi
    by_cases e : i = k
    · subst e
      obtain ⟨h1, h2, h3⟩ := sub_own ok hi hs
      have h0 := hp i hi h1
      have := (ok.ps i).taking h1
      rw [if_neg (by omega)] at h0
      rw [if_pos (by omega)]
      by_cases h4 : (L.ps i).step ≤ 4
      · have := h2 h4; omega
      · have := h3 (by omega); omega
    · obtain ⟨e1, e2⟩ := sub_other ok e
      rw [e1] at hs
      rw [e2]
      have h0 := hp i hi hs
      by_cases hik : i < k
      · rw [if_pos hik] at h0
        rw [if_pos (by omega)]
        exact h0
      · rw [if_neg hik] at h0
        rw [if_neg (by omega)]
        exact h0
  · refine .inr ⟨ht, hl.sub ok k, ?_⟩
    cases Q with
    | nil =>
      rw [(sub_empty ok hl hQ k).1]
      refine ⟨[], hQ, hb, ?_⟩
      simp only [phi]
      omega
    | cons a r =>
      by_cases e : k = a
      · subst e
        obtain ⟨Q', h1, h2⟩ := sub_phi ok hl hQ
        exact ⟨Q', h1, by omega, .inl (by omega)⟩
      · rw [sub_still ok hl hQ e]
        refine ⟨a :: r, hQ, hb, ?_⟩
        rcases hc with hc | hc | ⟨a', r', e', hc⟩
        · exact .inl hc
        · exact .inr (.inl hc)
        · simp at e'
          exact .inr (.inr ⟨a, r, rfl, by omega⟩)

theorem Rd.next {L : Lock} (ok : L.Ok) {t : Nat} (h : Rd t 16 L) : Rd (t + 1) 0 L := by
  have hn := ok.n
  rcases h with ⟨ht, ⟨Q, hQ⟩, hp⟩ | ⟨ht, hl, Q, hQ, hb, hc⟩
  · by_cases h3 : t = 3
    · subst h3
      refine .inr ⟨by omega, fun i hi hs => ?_, Q, hQ, ?_, ?_⟩
      · have := hp i hi hs
        have := (ok.ps i).taking hs
        rw [if_pos (by omega)] at *
        omega
      · have := phi_le L Q
        have := hQ.len
        omega
      · cases Q with
        | nil => simp [phi]
        | cons a r => exact .inr (.inr ⟨a, r, rfl, by omega⟩)
    · refine .inl ⟨by omega, ⟨Q, hQ⟩, fun i hi hs => ?_⟩
      have := hp i hi hs
      rw [if_pos (by omega)] at this
      simp
      omega
  · have hb2 : phi L Q ≤ 84 - (t + 1) := by
      rcases hc with hc | hc | ⟨a, r, rfl, hc⟩
      · omega
      · omega
      · have := hQ.lt a (by simp); omega
    refine .inr ⟨by omega, hl, Q, hQ, hb2, ?_⟩
    cases Q with
    | nil => simp only [phi]; omega
    | cons a r => exact .inr (.inr ⟨a, r, rfl, by omega⟩)

theorem Rd.end {L : Lock} (ok : L.Ok) (h : Rd 200 0 L) (i : Nat) : L.stateOf i ≤ 0 := by
  rcases h with ⟨ht, -⟩ | ⟨-, hl, Q, hQ, hb, -⟩
  · omega
  · have := phi_zero (L := L) (Q := Q) (by omega)
    subst this
    exact (sub_empty ok hl hQ i).2
end Go.Proofs.Ythhcmilijiccmaa
