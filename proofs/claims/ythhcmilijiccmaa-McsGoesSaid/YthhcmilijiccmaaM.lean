/- The lock of layer 29 as plain Lean: parties, their steps, and what stays true of them. No condition. -/
namespace Go.Proofs.Ythhcmilijiccmaa

structure Party where
  next : Int
  waits : Bool
  state : Int
  step : Int
  other : Int

structure Lock where
  tail : Int
  ps : Nat → Party
  n : Nat

namespace Lock

def setP (L : Lock) (i : Nat) (p : Party) : Lock := { L with ps := fun j => if j = i then p else L.ps j }

theorem setP_same (L : Lock) (i : Nat) (p : Party) : (L.setP i p).ps i = p := by simp [setP]
theorem setP_other (L : Lock) {i j : Nat} (p : Party) (h : j ≠ i) : (L.setP i p).ps j = L.ps j := by simp [setP, h]
@[simp] theorem setP_n (L : Lock) (i : Nat) (p : Party) : (L.setP i p).n = L.n := rfl
@[simp] theorem setP_tail (L : Lock) (i : Nat) (p : Party) : (L.setP i p).tail = L.tail := rfl
theorem setP_setP (L : Lock) (i : Nat) (p q : Party) : (L.setP i p).setP i q = L.setP i q := by
  simp only [setP, mk.injEq, true_and, and_true]
  funext j
  by_cases h : j = i <;> simp [h]

def setT (L : Lock) (t : Int) : Lock := { L with tail := t }
@[simp] theorem setT_n (L : Lock) (t : Int) : (L.setT t).n = L.n := rfl
@[simp] theorem setT_tail (L : Lock) (t : Int) : (L.setT t).tail = t := rfl
@[simp] theorem setT_ps (L : Lock) (t : Int) : (L.setT t).ps = L.ps := rfl

theorem setT_setP (L : Lock) (i : Nat) (p : Party) (t : Int) : (L.setT t).setP i p = (L.setP i p).setT t := rfl
theorem setT_setT (L : Lock) (t u : Int) : (L.setT t).setT u = L.setT u := rfl

def has (L : Lock) (who : Int) : Bool := decide (0 ≤ who) && decide (who < L.n)

theorem has_iff {L : Lock} {who : Int} : L.has who = true ↔ 0 ≤ who ∧ who < L.n := by simp [has]

/-- A party's new state, at its first step. -/
def put (L : Lock) (i : Nat) (t : Int) : Lock := L.setP i { L.ps i with state := t, step := 1 }

def take (L : Lock) (i : Nat) : Lock :=
  if (L.ps i).step = 1 then L.setP i { L.ps i with next := -1, step := 2 }
  else if (L.ps i).step = 2 then L.setP i { L.ps i with waits := true, step := 3 }
  else if (L.ps i).step = 3 then (L.setP i { L.ps i with other := L.tail, state := if L.tail = -1 then 2 else (L.ps i).state, step := 4 }).setT i
  else if (L.ps i).step = 4 then
    (L.setP (L.ps i).other.toNat { L.ps (L.ps i).other.toNat with next := i }).setP i
      { (L.setP (L.ps i).other.toNat { L.ps (L.ps i).other.toNat with next := i }).ps i with step := 5 }
  else if (L.ps i).waits then L else L.setP i { L.ps i with state := 2, step := (L.ps i).step + 1 }

def give (L : Lock) (i : Nat) : Lock :=
  if (L.ps i).step = 1 then L.setP i { L.ps i with other := (L.ps i).next, step := if (L.ps i).next = -1 then 2 else 3 }
  else if (L.ps i).step = 2 then
    if L.tail = i then (L.setP i { L.ps i with step := 1, state := 0 }).setT (-1) else L.setP i { L.ps i with step := 1 }
  else (L.setP (L.ps i).other.toNat { L.ps (L.ps i).other.toNat with waits := false }).setP i
      { (L.setP (L.ps i).other.toNat { L.ps (L.ps i).other.toNat with waits := false }).ps i with state := 0 }

def stepAt (L : Lock) (i : Nat) : Lock := if (L.ps i).state = 1 then L.take i else if (L.ps i).state = 3 then L.give i else L

/-- Take (from 0 to 1) and Give (from 2 to 3): the error's number, and the lock. -/
def call (L : Lock) (who f : Int) : Int × Lock :=
  if L.has who = true then if (L.ps who.toNat).state = f then (0, L.put who.toNat (f + 1)) else (5, L) else (1, L)

/-- A step: did the state change; the error's number; the lock. -/
def step (L : Lock) (who : Int) : Bool × Int × Lock :=
  if L.has who = true then
    if (L.ps who.toNat).state = 1 ∨ (L.ps who.toNat).state = 3 then (((L.stepAt who.toNat).ps who.toNat).state != (L.ps who.toNat).state, 0, L.stepAt who.toNat) else (false, 5, L)
  else (false, 1, L)

def stateOf (L : Lock) (who : Int) : Int := if L.has who = true then (L.ps who.toNat).state else -1

def fresh (n : Int) : Lock := ⟨-1, fun _ => ⟨-1, false, 0, 0, 0⟩, (max 1 (min n 16)).toNat⟩
end Lock

structure Party.Ok (p : Party) (n : Nat) : Prop where
  next : -1 ≤ p.next ∧ p.next < n
  state : 0 ≤ p.state ∧ p.state ≤ 3
  step : 0 ≤ p.step ∧ p.step ≤ 6
  other : -1 ≤ p.other ∧ p.other < n
  taking : p.state = 1 → 1 ≤ p.step ∧ p.step ≤ 5
  link : p.state = 1 → p.step = 4 → 0 ≤ p.other
  giving : p.state = 3 → 1 ≤ p.step ∧ p.step ≤ 3
  wake : p.state = 3 → p.step = 3 → 0 ≤ p.other

structure Lock.Ok (L : Lock) : Prop where
  n : 1 ≤ L.n ∧ L.n ≤ 16
  tail : -1 ≤ L.tail ∧ L.tail < L.n
  ps : ∀ i, (L.ps i).Ok L.n

namespace Lock.Ok
variable {L : Lock}

theorem fresh (n : Int) : (Lock.fresh n).Ok := by
  refine ⟨?_, ?_, fun i => ?_⟩
  · simp only [Lock.fresh]; omega
  · simp only [Lock.fresh]; omega
  · constructor <;> simp only [Lock.fresh] <;> omega

theorem setP (h : L.Ok) (i : Nat) {p : Party} (hp : p.Ok L.n) : (L.setP i p).Ok := by
  refine ⟨h.n, h.tail, fun j => ?_⟩
  by_cases e : j = i
  · subst e; rw [Lock.setP_same]; exact hp
  · rw [Lock.setP_other _ _ e]; exact h.ps j

theorem setTail (h : L.Ok) {t : Int} (ht : -1 ≤ t ∧ t < L.n) : (L.setT t).Ok := ⟨h.n, ht, h.ps⟩

theorem put (h : L.Ok) (i : Nat) {t : Int} (ht : t = 1 ∨ t = 3) : (L.put i t).Ok := by
  have hp := h.ps i
  refine h.setP i ⟨hp.next, ?_, ?_, hp.other, ?_, ?_, ?_, ?_⟩ <;> simp <;> omega

theorem next (h : L.Ok) (o i : Nat) (hi : i < L.n) : (L.setP o { L.ps o with next := i }).Ok := by
  have hp := h.ps o
  exact h.setP o ⟨⟨by simp only []; omega, by simp only []; omega⟩, hp.state, hp.step, hp.other, hp.taking, hp.link, hp.giving, hp.wake⟩

theorem woken (h : L.Ok) (o : Nat) (b : Bool) : (L.setP o { L.ps o with waits := b }).Ok := by
  have hp := h.ps o
  exact h.setP o ⟨hp.next, hp.state, hp.step, hp.other, hp.taking, hp.link, hp.giving, hp.wake⟩

theorem take (h : L.Ok) (i : Nat) (hi : i < L.n) (hs : (L.ps i).state = 1) : (L.take i).Ok := by
  have hp := h.ps i
  have ht := h.tail
  have hn := h.n
  have h1 := hp.taking hs
  have h2 := hp.next
  have h3 := hp.other
  unfold Lock.take
  split
  · refine h.setP i ⟨?_, hp.state, ?_, hp.other, ?_, ?_, ?_, ?_⟩ <;> simp <;> omega
  · split
    · refine h.setP i ⟨hp.next, hp.state, ?_, hp.other, ?_, ?_, ?_, ?_⟩ <;> simp <;> omega
    · split
      · refine setTail ?_ ?_
        · refine h.setP i ⟨hp.next, ?_, ?_, ?_, ?_, ?_, ?_, ?_⟩ <;> simp <;> (try split) <;> omega
        · simp; omega
      · split
        · have hq := (h.next (L.ps i).other.toNat i hi).ps i
          refine (h.next _ i hi).setP i ⟨hq.next, hq.state, ?_, hq.other, ?_, ?_, ?_, ?_⟩
          · simp
          · simp
          · simp
          · intro h3
            have : ((L.setP (L.ps i).other.toNat { L.ps (L.ps i).other.toNat with next := (i : Int) }).ps i).state = 1 := by
              by_cases e : i = (L.ps i).other.toNat
              · rw [← e, Lock.setP_same]; exact hs
              · rw [Lock.setP_other _ _ e]; exact hs
            rw [this] at h3
            omega
          · simp
        · split
          · exact h
          · refine h.setP i ⟨hp.next, ?_, ?_, hp.other, ?_, ?_, ?_, ?_⟩ <;> simp <;> omega

theorem give (h : L.Ok) (i : Nat) (hs : (L.ps i).state = 3) : (L.give i).Ok := by
  have hp := h.ps i
  have ht := h.tail
  have hn := h.n
  have h1 := hp.giving hs
  have h2 := hp.next
  have h3 := hp.other
  unfold Lock.give
  split
  · refine h.setP i ⟨hp.next, hp.state, ?_, ?_, ?_, ?_, ?_, ?_⟩ <;> simp <;> (try split) <;> omega
  · split
    · split
      · refine setTail ?_ ?_
        · refine h.setP i ⟨hp.next, ?_, ?_, hp.other, ?_, ?_, ?_, ?_⟩ <;> simp <;> omega
        · simp; omega
      · refine h.setP i ⟨hp.next, hp.state, ?_, hp.other, ?_, ?_, ?_, ?_⟩ <;> simp <;> omega
    · have hq := (h.woken (L.ps i).other.toNat false).ps i
      refine (h.woken _ false).setP i ⟨hq.next, ?_, hq.step, hq.other, ?_, ?_, ?_, ?_⟩ <;> simp

theorem stepAt (h : L.Ok) (i : Nat) (hi : i < L.n) : (L.stepAt i).Ok := by
  unfold Lock.stepAt
  split
  · rename_i hs; exact h.take i hi hs
  · split
    · rename_i hs; exact h.give i hs
    · exact h

theorem call (h : L.Ok) (who : Int) {f : Int} (hf : f = 0 ∨ f = 2) : (L.call who f).2.Ok := by
  unfold Lock.call
  split
  · split
    · exact h.put _ (by omega)
    · exact h
  · exact h

theorem step (h : L.Ok) (who : Int) : (L.step who).2.2.Ok := by
  unfold Lock.step
  split
  · rename_i hh
    have := Lock.has_iff.1 hh
    split
    · exact h.stepAt _ (by omega)
    · exact h
  · exact h
end Lock.Ok
end Go.Proofs.Ythhcmilijiccmaa
