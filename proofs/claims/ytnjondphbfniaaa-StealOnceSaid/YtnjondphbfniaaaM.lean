/- The row of layer 28 as plain Lean: parties, their steps, and what stays true of the numbers. No condition. -/
namespace Go.Proofs.Ytnjondphbfniaaa

structure Pt where
  call : Int
  step : Int
  b : Int
  t : Int
  x : Int
  won : Bool

/-- One who is in no call. -/
def Pt.none : Pt := ⟨0, 0, 0, 0, 0, false⟩

structure Dq where
  top : Int
  bottom : Int
  room : Int
  slots : Nat → Int
  ps : Nat → Pt
  n : Nat

namespace Dq
def setP (d : Dq) (i : Nat) (p : Pt) : Dq := { d with ps := fun j => if j = i then p else d.ps j }
def setS (d : Dq) (i : Nat) (v : Int) : Dq := { d with slots := fun j => if j = i then v else d.slots j }
def setT (d : Dq) (v : Int) : Dq := { d with top := v }
def setB (d : Dq) (v : Int) : Dq := { d with bottom := v }
theorem setP_same (d : Dq) (i : Nat) (p : Pt) : (d.setP i p).ps i = p := by simp [setP]
theorem setP_other (d : Dq) {i j : Nat} (p : Pt) (h : j ≠ i) : (d.setP i p).ps j = d.ps j := by simp [setP, h]

/-- The slot of a number. -/
def at' (d : Dq) (n : Int) : Nat := (n % d.room).toNat

/-- A step of a push; how it ends (0: it goes on). -/
def push (d : Dq) (i : Nat) : Int × Dq :=
  if (d.ps i).step = 1 then (0, d.setP i { d.ps i with b := d.bottom })
  else if (d.ps i).step = 2 then (if d.room ≤ (d.ps i).b - d.top then 4 else 0, d.setP i { d.ps i with t := d.top })
  else if (d.ps i).step = 3 then (0, d.setS (d.at' (d.ps i).b) (d.ps i).x)
  else (2, d.setB ((d.ps i).b + 1))

def pop (d : Dq) (i : Nat) : Int × Dq :=
  if (d.ps i).step = 1 then (0, (d.setP i { d.ps i with b := d.bottom - 1 }).setB (d.bottom - 1))
  else if (d.ps i).step = 2 then (0, d.setP i { d.ps i with t := d.top, step := if (d.ps i).b < d.top then 4 else (d.ps i).step })
  else if (d.ps i).step = 3 then (if (d.ps i).t < (d.ps i).b then 1 else 0, d.setP i { d.ps i with x := d.slots (d.at' (d.ps i).b) })
  else if (d.ps i).step = 4 then if d.top = (d.ps i).t then (0, (d.setT (d.top + 1)).setP i { d.ps i with won := true }) else (0, d.setP i { d.ps i with won := false })
  else (if (d.ps i).won then 1 else 3, d.setB ((d.ps i).b + 1))

def steal (d : Dq) (i : Nat) : Int × Dq :=
  if (d.ps i).step = 1 then (0, d.setP i { d.ps i with t := d.top })
  else if (d.ps i).step = 2 then (if d.bottom ≤ (d.ps i).t then 3 else 0, d.setP i { d.ps i with b := d.bottom })
  else if (d.ps i).step = 3 then (0, d.setP i { d.ps i with x := d.slots (d.at' (d.ps i).t) })
  else if d.top = (d.ps i).t then (1, d.setT (d.top + 1)) else (5, d)

/-- One step of who is in a call, his number of the step not yet raised. -/
def go (d : Dq) (i : Nat) : Int × Dq := if (d.ps i).call = 1 then d.push i else if (d.ps i).call = 2 then d.pop i else d.steal i

/-- Behind it: the next step, or no call. -/
def done (h : Int × Dq) (i : Nat) : Dq := if h.1 = 0 then h.2.setP i { h.2.ps i with step := (h.2.ps i).step + 1 } else h.2.setP i Pt.none

def has (d : Dq) (who : Int) : Bool := decide (0 ≤ who) && decide (who < d.n)
theorem has_iff {d : Dq} {who : Int} : d.has who = true ↔ 0 ≤ who ∧ who < d.n := by simp [has]

/-- How it ends, what was taken, the error's number, the row. -/
def step (d : Dq) (who : Int) : Int × Int × Int × Dq :=
  if d.has who = true then
    if 1 ≤ (d.ps who.toNat).call ∧ (d.ps who.toNat).call ≤ 3 then
      ((d.go who.toNat).1, if (d.go who.toNat).1 = 1 then ((d.go who.toNat).2.ps who.toNat).x else 0, 0, done (d.go who.toNat) who.toNat)
    else (0, 0, 5, d)
  else (0, 0, 1, d)

/-- A call is begun. -/
def begin (d : Dq) (who call x : Int) : Int × Dq :=
  if d.has who = true then if (d.ps who.toNat).call = 0 then (0, d.setP who.toNat { Pt.none with call := call, step := 1, x := x }) else (5, d) else (1, d)

def fresh (room thieves : Int) : Dq := ⟨0, 0, max 1 (min room 64), fun _ => 0, fun _ => Pt.none, (1 + max 0 (min thieves 8)).toNat⟩
end Dq

/-- The numbers of party i are within their bounds (K: how many steps there were). -/
structure Pt.Ok (p : Pt) (d : Dq) (i K : Nat) : Prop where
  call : 0 ≤ p.call ∧ p.call ≤ 3
  who : (p.call = 1 ∨ p.call = 2 → i = 0) ∧ (p.call = 3 → i ≠ 0)
  step : 0 ≤ p.step ∧ p.step ≤ 5
  live : p.call ≠ 0 → 1 ≤ p.step
  short : p.call = 1 ∨ p.call = 3 → p.step ≤ 4
  b : -1 ≤ p.b ∧ p.b ≤ K
  t : 0 ≤ p.t ∧ p.t ≤ K
  push : p.call = 1 → 2 ≤ p.step → p.b = d.bottom
  pop : p.call = 2 → 2 ≤ p.step → p.b = d.bottom
  read : p.call = 2 → p.step = 3 → p.t ≤ p.b

structure Dq.Ok (d : Dq) (K : Nat) : Prop where
  n : 1 ≤ d.n ∧ d.n ≤ 9
  room : 1 ≤ d.room ∧ d.room ≤ 64
  top : 0 ≤ d.top ∧ d.top ≤ K
  bottom : -1 ≤ d.bottom ∧ d.bottom ≤ K
  idle : ¬ ((d.ps 0).call = 2 ∧ 2 ≤ (d.ps 0).step) → 0 ≤ d.bottom
  ps : ∀ i, (d.ps i).Ok d i K

theorem Dq.Ok.fresh (room thieves : Int) : (Dq.fresh room thieves).Ok 0 := by
  refine ⟨by simp only [Dq.fresh]; omega, by simp only [Dq.fresh]; omega, by simp [Dq.fresh], by simp [Dq.fresh], by simp [Dq.fresh], fun i => ?_⟩
  constructor <;> simp [Dq.fresh, Pt.none]

theorem Dq.Ok.of {d d' : Dq} {K : Nat} (h : d.Ok K) (i : Nat) (hn : d'.n = d.n) (hr : d'.room = d.room) (ht : 0 ≤ d'.top ∧ d'.top ≤ K + 1) (hb : -1 ≤ d'.bottom ∧ d'.bottom ≤ K + 1)
    (hsame : i ≠ 0 → d'.bottom = d.bottom) (ho : ∀ j, j ≠ i → d'.ps j = d.ps j) (hi : i = 0 → ¬ ((d'.ps 0).call = 2 ∧ 2 ≤ (d'.ps 0).step) → 0 ≤ d'.bottom) (hp : (d'.ps i).Ok d' i (K + 1)) : d'.Ok (K + 1) := by
  refine ⟨by rw [hn]; exact h.n, by rw [hr]; exact h.room, by omega, by omega, fun he => ?_, fun j => ?_⟩
  · by_cases e : i = 0
    · exact hi e he
    · rw [ho 0 (fun e' => e e'.symm)] at he
      rw [hsame e]
      exact h.idle he
  · by_cases e : j = i
    · rw [e]; exact hp
    · rw [ho j e]
      have q := h.ps j
      have hq : (d.ps j).call = 1 ∨ (d.ps j).call = 2 → d'.bottom = d.bottom := fun hc => hsame (fun e0 => by have := q.who.1 hc; omega)
      refine ⟨q.call, q.who, q.step, q.live, q.short, ?_, ?_, fun h1 h2 => ?_, fun h1 h2 => ?_, q.read⟩
      · have := q.b; omega
      · have := q.t; omega
      · rw [hq (.inl h1)]; exact q.push h1 h2
      · rw [hq (.inr h1)]; exact q.pop h1 h2

theorem Pt.Ok.nobody {d : Dq} {i K : Nat} : Pt.none.Ok d i K := by
  constructor <;> simp [Pt.none] <;> omega

/-- A step that goes on. -/
theorem Dq.Ok.goes {d g : Dq} {K : Nat} (h : d.Ok K) {i : Nat} (hc : 1 ≤ (d.ps i).call ∧ (d.ps i).call ≤ 3) (a1 : g.n = d.n) (a2 : g.room = d.room) (a3 : ∀ j, j ≠ i → g.ps j = d.ps j)
    (a4 : 0 ≤ g.top ∧ g.top ≤ K + 1) (a5 : -1 ≤ g.bottom ∧ g.bottom ≤ K + 1) (a6 : i ≠ 0 → g.bottom = d.bottom) (p : Pt) (hp : g.ps i = p) (b1 : p.call = (d.ps i).call) (b2 : 1 ≤ p.step ∧ p.step ≤ 4) (b3 : p.call ≠ 2 → p.step ≤ 3)
    (b4 : i = 0 → p.call ≠ 2 → 0 ≤ g.bottom) (b5 : -1 ≤ p.b ∧ p.b ≤ K + 1) (b6 : 0 ≤ p.t ∧ p.t ≤ K + 1) (b7 : p.call ≠ 3 → p.b = g.bottom) (b8 : p.call = 2 → p.step = 2 → p.t ≤ p.b) : (done (0, g) i).Ok (K + 1) := by
  have hw := (h.ps i).who
  unfold done
  rw [if_pos rfl]
  simp only [hp]
  refine h.of i a1 a2 a4 a5 a6 (fun j hj => by rw [setP_other _ _ hj]; exact a3 j hj) (fun e he => ?_) ?_
  · subst e
    rw [setP_same] at he
    simp only at he
    refine b4 rfl (fun e2 => he ⟨e2, by omega⟩)
  · rw [setP_same]
    refine ⟨by simp only []; omega, ⟨fun e => hw.1 (by simp only [] at e; omega), fun e => hw.2 (by simp only [] at e; omega)⟩, by simp only []; omega, fun _ => by simp only []; omega, fun e => ?_, b5, b6, fun e _ => ?_, fun e _ => ?_, fun e1 e2 => ?_⟩
    · simp only [] at e ⊢
      have := b3 (by omega)
      omega
    · simp only [] at e
      exact b7 (by omega)
    · simp only [] at e
      exact b7 (by omega)
    · simp only [] at e1 e2 ⊢
      exact b8 e1 (by omega)

/-- A step that ends the call. -/
theorem Dq.Ok.ends {d g : Dq} {K : Nat} (h : d.Ok K) {i : Nat} {c : Int} (hc : c ≠ 0) (a1 : g.n = d.n) (a2 : g.room = d.room) (a3 : ∀ j, j ≠ i → g.ps j = d.ps j)
    (a4 : 0 ≤ g.top ∧ g.top ≤ K + 1) (a5 : -1 ≤ g.bottom ∧ g.bottom ≤ K + 1) (a6 : i ≠ 0 → g.bottom = d.bottom) (a7 : i = 0 → 0 ≤ g.bottom) : (done (c, g) i).Ok (K + 1) := by
  unfold done
  rw [if_neg hc]
  exact h.of i a1 a2 a4 a5 a6 (fun j hj => by rw [setP_other _ _ hj]; exact a3 j hj) (fun e _ => a7 e) (by rw [setP_same]; exact Pt.Ok.nobody)

theorem Dq.Ok.go {d : Dq} {K : Nat} (h : d.Ok K) {i : Nat} (hc : 1 ≤ (d.ps i).call ∧ (d.ps i).call ≤ 3) : (done (d.go i) i).Ok (K + 1) := by
  have hp := h.ps i
  have h2 := hp.who
  have h3 := hp.step
  have h4 := hp.live (by omega)
  have h5 := hp.short
  have h6 := hp.b
  have h7 := hp.t
  have h8 := hp.push
  have h9 := hp.pop
  have h10 := hp.read
  have ht := h.top
  have hb := h.bottom
  have hr := h.room
  have hidle : i = 0 → ¬ ((d.ps i).call = 2 ∧ 2 ≤ (d.ps i).step) → 0 ≤ d.bottom := fun e he => h.idle (by subst e; exact he)
  unfold Dq.go
  split
  · rename_i hcall
    have i0 := h2.1 (.inl hcall)
    have hb0 := hidle i0 (by omega)
    have hs5 := h5 (.inl hcall)
    unfold Dq.push
    split
    · exact h.goes hc rfl rfl (fun j hj => setP_other _ _ hj) (And.intro (by show (0 : Int) ≤ d.top; omega) (by show d.top ≤ (K : Int) + 1; omega)) (And.intro (by show (-1 : Int) ≤ d.bottom; omega) (by show d.bottom ≤ (K : Int) + 1; omega)) (fun _ => rfl) _ (setP_same _ _ _) rfl (by simp only []; omega) (fun _ => by simp only []; omega) (fun _ _ => hb0) (by simp only []; omega) (by simp only []; omega) (fun _ => rfl) (fun e => by simp only [] at e; omega)
    · split
      · rename_i hs
        have := h8 hcall (by omega)
        by_cases hroom : d.room ≤ (d.ps i).b - d.top
        · rw [if_pos hroom]
          exact h.ends (by omega) rfl rfl (fun j hj => setP_other _ _ hj) (And.intro (by show (0 : Int) ≤ d.top; omega) (by show d.top ≤ (K : Int) + 1; omega)) (And.intro (by show (-1 : Int) ≤ d.bottom; omega) (by show d.bottom ≤ (K : Int) + 1; omega)) (fun _ => rfl) (fun _ => hb0)
        · rw [if_neg hroom]
          exact h.goes hc rfl rfl (fun j hj => setP_other _ _ hj) (And.intro (by show (0 : Int) ≤ d.top; omega) (by show d.top ≤ (K : Int) + 1; omega)) (And.intro (by show (-1 : Int) ≤ d.bottom; omega) (by show d.bottom ≤ (K : Int) + 1; omega)) (fun _ => rfl) _ (setP_same _ _ _) rfl (by simp only []; omega) (fun _ => by simp only []; omega) (fun _ _ => hb0) (by simp only []; omega) (by simp only []; omega) (fun _ => this) (fun e => by simp only [] at e; omega)
      · split
        · rename_i hs
          have := h8 hcall (by omega)
          exact h.goes hc rfl rfl (fun j hj => rfl) (And.intro (by show (0 : Int) ≤ d.top; omega) (by show d.top ≤ (K : Int) + 1; omega)) (And.intro (by show (-1 : Int) ≤ d.bottom; omega) (by show d.bottom ≤ (K : Int) + 1; omega)) (fun _ => rfl) (d.ps i) rfl rfl (by omega) (fun _ => by omega) (fun _ _ => hb0) (by omega) (by omega) (fun _ => this) (fun e => by omega)
        · have := h8 hcall (by omega)
          exact h.ends (by omega) rfl rfl (fun j hj => rfl) (And.intro (by show (0 : Int) ≤ d.top; omega) (by show d.top ≤ (K : Int) + 1; omega)) (And.intro (by show (-1 : Int) ≤ (d.ps i).b + 1; omega) (by show (d.ps i).b + 1 ≤ (K : Int) + 1; omega)) (fun e => absurd i0 e) (fun _ => by show 0 ≤ (d.ps i).b + 1; omega)
  · split
    · rename_i hcall
      have i0 := h2.1 (.inr hcall)
      unfold Dq.pop
      split
      · have hb0 := hidle i0 (by omega)
        exact h.goes hc rfl rfl (fun j hj => setP_other _ _ hj) (And.intro (by show (0 : Int) ≤ d.top; omega) (by show d.top ≤ (K : Int) + 1; omega)) (And.intro (by show (-1 : Int) ≤ d.bottom - 1; omega) (by show d.bottom - 1 ≤ (K : Int) + 1; omega)) (fun e => absurd i0 e) _ (setP_same _ _ _) rfl (by simp only []; omega) (fun e => by simp only [] at e; omega) (fun _ e => by simp only [] at e; omega) (by simp only []; omega) (by simp only []; omega) (fun _ => rfl) (fun _ e => by simp only [] at e; omega)
      · split
        · rename_i hs
          have := h9 hcall (by omega)
          refine h.goes hc rfl rfl (fun j hj => setP_other _ _ hj) (And.intro (by show (0 : Int) ≤ d.top; omega) (by show d.top ≤ (K : Int) + 1; omega)) (And.intro (by show (-1 : Int) ≤ d.bottom; omega) (by show d.bottom ≤ (K : Int) + 1; omega)) (fun _ => rfl) _ (setP_same _ _ _) rfl ?_ (fun e => by simp only [] at e; omega) (fun _ e => by simp only [] at e; omega) (by simp only []; omega) (by simp only []; omega) (fun _ => this) (fun _ e => ?_)
          · simp only []; split <;> omega
          · simp only [] at e ⊢
            split at e <;> omega
        · split
          · rename_i hs
            have := h9 hcall (by omega)
            have := h10 hcall hs
            by_cases ht2 : (d.ps i).t < (d.ps i).b
            · rw [if_pos ht2]
              exact h.ends (by omega) rfl rfl (fun j hj => setP_other _ _ hj) (And.intro (by show (0 : Int) ≤ d.top; omega) (by show d.top ≤ (K : Int) + 1; omega)) (And.intro (by show (-1 : Int) ≤ d.bottom; omega) (by show d.bottom ≤ (K : Int) + 1; omega)) (fun _ => rfl) (fun _ => by show 0 ≤ d.bottom; omega)
            · rw [if_neg ht2]
              exact h.goes hc rfl rfl (fun j hj => setP_other _ _ hj) (And.intro (by show (0 : Int) ≤ d.top; omega) (by show d.top ≤ (K : Int) + 1; omega)) (And.intro (by show (-1 : Int) ≤ d.bottom; omega) (by show d.bottom ≤ (K : Int) + 1; omega)) (fun _ => rfl) _ (setP_same _ _ _) rfl (by simp only []; omega) (fun e => by simp only [] at e; omega) (fun _ e => by simp only [] at e; omega) (by simp only []; omega) (by simp only []; omega) (fun _ => by show (d.ps i).b = d.bottom; omega) (fun _ e => by simp only [] at e; omega)
          · split
            · rename_i hs
              have := h9 hcall (by omega)
              split
              · exact h.goes hc rfl rfl (fun j hj => setP_other _ _ hj) (And.intro (by show (0 : Int) ≤ d.top + 1; omega) (by show d.top + 1 ≤ (K : Int) + 1; omega)) (And.intro (by show (-1 : Int) ≤ d.bottom; omega) (by show d.bottom ≤ (K : Int) + 1; omega)) (fun _ => rfl) _ (setP_same _ _ _) rfl (by simp only []; omega) (fun e => by simp only [] at e; omega) (fun _ e => by simp only [] at e; omega) (by simp only []; omega) (by simp only []; omega) (fun _ => this) (fun _ e => by simp only [] at e; omega)
              · exact h.goes hc rfl rfl (fun j hj => setP_other _ _ hj) (And.intro (by show (0 : Int) ≤ d.top; omega) (by show d.top ≤ (K : Int) + 1; omega)) (And.intro (by show (-1 : Int) ≤ d.bottom; omega) (by show d.bottom ≤ (K : Int) + 1; omega)) (fun _ => rfl) _ (setP_same _ _ _) rfl (by simp only []; omega) (fun e => by simp only [] at e; omega) (fun _ e => by simp only [] at e; omega) (by simp only []; omega) (by simp only []; omega) (fun _ => this) (fun _ e => by simp only [] at e; omega)
            · have := h9 hcall (by omega)
              exact h.ends (by split <;> omega) rfl rfl (fun j hj => rfl) (And.intro (by show (0 : Int) ≤ d.top; omega) (by show d.top ≤ (K : Int) + 1; omega)) (And.intro (by show (-1 : Int) ≤ (d.ps i).b + 1; omega) (by show (d.ps i).b + 1 ≤ (K : Int) + 1; omega)) (fun e => absurd i0 e) (fun _ => by show 0 ≤ (d.ps i).b + 1; omega)
    · have hcall : (d.ps i).call = 3 := by omega
      have i0 := h2.2 hcall
      have hs5 := h5 (.inr hcall)
      unfold Dq.steal
      split
      · exact h.goes hc rfl rfl (fun j hj => setP_other _ _ hj) (And.intro (by show (0 : Int) ≤ d.top; omega) (by show d.top ≤ (K : Int) + 1; omega)) (And.intro (by show (-1 : Int) ≤ d.bottom; omega) (by show d.bottom ≤ (K : Int) + 1; omega)) (fun _ => rfl) _ (setP_same _ _ _) rfl (by simp only []; omega) (fun _ => by simp only []; omega) (fun e => absurd e i0) (by simp only []; omega) (by simp only []; omega) (fun e => by simp only [] at e; omega) (fun e => by simp only [] at e; omega)
      · split
        · by_cases hroom : d.bottom ≤ (d.ps i).t
          · rw [if_pos hroom]
            exact h.ends (by omega) rfl rfl (fun j hj => setP_other _ _ hj) (And.intro (by show (0 : Int) ≤ d.top; omega) (by show d.top ≤ (K : Int) + 1; omega)) (And.intro (by show (-1 : Int) ≤ d.bottom; omega) (by show d.bottom ≤ (K : Int) + 1; omega)) (fun _ => rfl) (fun e => absurd e i0)
          · rw [if_neg hroom]
            exact h.goes hc rfl rfl (fun j hj => setP_other _ _ hj) (And.intro (by show (0 : Int) ≤ d.top; omega) (by show d.top ≤ (K : Int) + 1; omega)) (And.intro (by show (-1 : Int) ≤ d.bottom; omega) (by show d.bottom ≤ (K : Int) + 1; omega)) (fun _ => rfl) _ (setP_same _ _ _) rfl (by simp only []; omega) (fun _ => by simp only []; omega) (fun e => absurd e i0) (by simp only []; omega) (by simp only []; omega) (fun e => by simp only [] at e; omega) (fun e => by simp only [] at e; omega)
        · split
          · exact h.goes hc rfl rfl (fun j hj => setP_other _ _ hj) (And.intro (by show (0 : Int) ≤ d.top; omega) (by show d.top ≤ (K : Int) + 1; omega)) (And.intro (by show (-1 : Int) ≤ d.bottom; omega) (by show d.bottom ≤ (K : Int) + 1; omega)) (fun _ => rfl) _ (setP_same _ _ _) rfl (by simp only []; omega) (fun _ => by simp only []; omega) (fun e => absurd e i0) (by simp only []; omega) (by simp only []; omega) (fun e => by simp only [] at e; omega) (fun e => by simp only [] at e; omega)
          · split
            · exact h.ends (by omega) rfl rfl (fun j hj => rfl) (And.intro (by show (0 : Int) ≤ d.top + 1; omega) (by show d.top + 1 ≤ (K : Int) + 1; omega)) (And.intro (by show (-1 : Int) ≤ d.bottom; omega) (by show d.bottom ≤ (K : Int) + 1; omega)) (fun _ => rfl) (fun e => absurd e i0)
            · exact h.ends (by omega) rfl rfl (fun j hj => rfl) (by omega) (by omega) (fun _ => rfl) (fun e => absurd e i0)

theorem Dq.Ok.mono {d : Dq} {K : Nat} (h : d.Ok K) : d.Ok (K + 1) := by
  refine ⟨h.n, h.room, by have := h.top; omega, by have := h.bottom; omega, h.idle, fun i => ?_⟩
  have q := h.ps i
  exact ⟨q.call, q.who, q.step, q.live, q.short, by have := q.b; omega, by have := q.t; omega, q.push, q.pop, q.read⟩

theorem Dq.Ok.step {d : Dq} {K : Nat} (h : d.Ok K) (who : Int) : (d.step who).2.2.2.Ok (K + 1) := by
  unfold Dq.step
  split
  · split
    · rename_i hc
      exact h.go hc
    · exact h.mono
  · exact h.mono

theorem Dq.Ok.begin {d : Dq} {K : Nat} (h : d.Ok K) (who call x : Int) (hw : (call = 1 ∨ call = 2) ∧ who = 0 ∨ call = 3 ∧ who ≠ 0) : (d.begin who call x).2.Ok (K + 1) := by
  unfold Dq.begin
  split
  · rename_i hh
    have hh := has_iff.1 hh
    split
    · rename_i hc
      have hidle : who.toNat = 0 → 0 ≤ d.bottom := fun e => h.idle (by rw [e] at hc; omega)
      refine h.of who.toNat rfl rfl (And.intro (by have := h.top; show (0 : Int) ≤ d.top; omega) (by have := h.top; show d.top ≤ (K : Int) + 1; omega)) (And.intro (by have := h.bottom; show (-1 : Int) ≤ d.bottom; omega) (by have := h.bottom; show d.bottom ≤ (K : Int) + 1; omega)) (fun _ => rfl) (fun j hj => setP_other _ _ hj) (fun e _ => hidle e) ?_
      rw [setP_same]
      refine ⟨by simp only []; omega, ⟨fun e => by simp only [] at e; omega, fun e => by simp only [] at e; omega⟩, by simp only []; omega, fun _ => by simp only []; omega, fun _ => by simp only []; omega, by simp only [Pt.none]; omega, by simp only [Pt.none]; omega, fun _ e => by simp only [] at e; omega, fun _ e => by simp only [] at e; omega, fun _ e => by simp only [] at e; omega⟩
    · exact h.mono
  · exact h.mono
end Go.Proofs.Ytnjondphbfniaaa
