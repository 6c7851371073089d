/- The document's row (package pinfoldref28): plain, and in memory. No condition. -/
import Derived.Test.YtnjondphbfniaaaI
namespace Go.Proofs.Ytnjondphbfniaaa
open Go.RowKit

/-- The document's step: how it ends, the next step, the party, the row. -/
def rgo (r : Dq) (i : Nat) : Int × Int × Pt × Dq :=
  if (r.ps i).call = 1 then
    if (r.ps i).step = 1 then (0, 2, { r.ps i with b := r.bottom }, r)
    else if (r.ps i).step = 2 then (if r.room ≤ (r.ps i).b - r.top then 4 else 0, 3, r.ps i, r)
    else if (r.ps i).step = 3 then (0, 4, r.ps i, r.setS (r.at' (r.ps i).b) (r.ps i).x)
    else (2, 5, r.ps i, r.setB ((r.ps i).b + 1))
  else if (r.ps i).call = 2 then
    if (r.ps i).step = 1 then (0, 2, { r.ps i with b := r.bottom - 1 }, r.setB (r.bottom - 1))
    else if (r.ps i).step = 2 then (0, if (r.ps i).b < r.top then 5 else 3, { r.ps i with t := r.top }, r)
    else if (r.ps i).step = 3 then (if (r.ps i).t < (r.ps i).b then 1 else 0, 4, { r.ps i with x := r.slots (r.at' (r.ps i).b) }, r)
    else if (r.ps i).step = 4 then (0, 5, { r.ps i with won := r.top == (r.ps i).t }, if r.top = (r.ps i).t then r.setT ((r.ps i).t + 1) else r)
    else (if (r.ps i).won then 1 else 3, 6, r.ps i, r.setB ((r.ps i).b + 1))
  else
    if (r.ps i).step = 1 then (0, 2, { r.ps i with t := r.top }, r)
    else if (r.ps i).step = 2 then (if r.bottom ≤ (r.ps i).t then 3 else 0, 3, r.ps i, r)
    else if (r.ps i).step = 3 then (0, 4, { r.ps i with x := r.slots (r.at' (r.ps i).t) }, r)
    else (if r.top = (r.ps i).t then 1 else 5, 5, r.ps i, if r.top = (r.ps i).t then r.setT ((r.ps i).t + 1) else r)

/-- Behind it. -/
def rend (h : Int × Int × Pt × Dq) (i : Nat) : Dq := h.2.2.2.setP i (if h.1 ≠ 0 then Pt.none else { h.2.2.1 with step := h.2.1 })

/-- Parties that are alike: what a party of its kind never reads may differ. -/
structure PtLike (p q : Pt) : Prop where
  call : q.call = p.call
  step : q.step = p.step
  x : q.x = p.x
  won : q.won = p.won
  b : p.call ≠ 3 → q.b = p.b
  t : p.call ≠ 1 → q.t = p.t

structure Like (d r : Dq) : Prop where
  top : r.top = d.top
  bottom : r.bottom = d.bottom
  room : r.room = d.room
  n : r.n = d.n
  slots : r.slots = d.slots
  ps : ∀ i, PtLike (d.ps i) (r.ps i)

theorem PtLike.refl (p : Pt) : PtLike p p := ⟨rfl, rfl, rfl, rfl, fun _ => rfl, fun _ => rfl⟩

theorem Like.setP {d r : Dq} (h : Like d r) (i : Nat) {p q : Pt} (hp : PtLike p q) : Like (d.setP i p) (r.setP i q) := by
  refine ⟨h.top, h.bottom, h.room, h.n, h.slots, fun j => ?_⟩
  by_cases e : j = i
  · subst e; rw [Dq.setP_same, Dq.setP_same]; exact hp
  · rw [Dq.setP_other _ _ e, Dq.setP_other _ _ e]; exact h.ps j

theorem Like.at' {d r : Dq} (h : Like d r) (n : Int) : r.at' n = d.at' n := by unfold Dq.at'; rw [h.room]

theorem setP_setP (d : Dq) (i : Nat) (p q : Pt) : (d.setP i p).setP i q = d.setP i q := by
  simp only [Dq.setP, Dq.mk.injEq, and_true, true_and]
  funext y
  by_cases e : y = i <;> simp [e]
theorem setB_setP (d : Dq) (i : Nat) (p : Pt) (v : Int) : (d.setP i p).setB v = (d.setB v).setP i p := rfl
theorem setT_setP (d : Dq) (i : Nat) (p : Pt) (v : Int) : (d.setP i p).setT v = (d.setT v).setP i p := rfl

theorem Like.setB {d r : Dq} (h : Like d r) (v : Int) : Like (d.setB v) (r.setB v) := ⟨h.top, rfl, h.room, h.n, h.slots, h.ps⟩
theorem Like.setT {d r : Dq} (h : Like d r) (v : Int) : Like (d.setT v) (r.setT v) := ⟨rfl, h.bottom, h.room, h.n, h.slots, h.ps⟩
theorem Like.setS {d r : Dq} (h : Like d r) (i : Nat) (v : Int) : Like (d.setS i v) (r.setS i v) := ⟨h.top, h.bottom, h.room, h.n, by simp only [Dq.setS, h.slots], h.ps⟩

/-- Some finishing of a step that goes on. -/
theorem Like.goes {d r : Dq} (h : Like d r) (i : Nat) {p q : Pt} (hp : PtLike p q) (hd : d.ps i = p) {s : Int} (hs : p.step + 1 = s) : Like (Dq.done (0, d) i) (rend (0, s, q, r) i) := by
  unfold Dq.done rend
  rw [if_pos rfl, if_neg (by simp)]
  refine h.setP i ?_
  rw [hd]
  exact ⟨hp.call, hs.symm, hp.x, hp.won, hp.b, hp.t⟩

theorem Like.ends {d r : Dq} (h : Like d r) (i : Nat) {c s : Int} (hc : c ≠ 0) (q : Pt) : Like (Dq.done (c, d) i) (rend (c, s, q, r) i) := by
  unfold Dq.done rend
  rw [if_neg hc, if_pos hc]
  exact h.setP i (PtLike.refl _)

/-- Rows that are alike, of which only party i may differ otherwise. -/
structure LikeX (i : Nat) (d r : Dq) : Prop where
  top : r.top = d.top
  bottom : r.bottom = d.bottom
  room : r.room = d.room
  n : r.n = d.n
  slots : r.slots = d.slots
  ps : ∀ j, j ≠ i → PtLike (d.ps j) (r.ps j)

theorem LikeX.setP {i : Nat} {d r : Dq} (h : LikeX i d r) {p q : Pt} (hp : PtLike p q) : Like (d.setP i p) (r.setP i q) := by
  refine ⟨h.top, h.bottom, h.room, h.n, h.slots, fun j => ?_⟩
  by_cases e : j = i
  · subst e; rw [Dq.setP_same, Dq.setP_same]; exact hp
  · rw [Dq.setP_other _ _ e, Dq.setP_other _ _ e]; exact h.ps j e
theorem LikeX.goes {i : Nat} {d r : Dq} (h : LikeX i d r) {p q : Pt} (hp : PtLike p q) (hd : d.ps i = p) {s : Int} (hs : p.step + 1 = s) : Like (Dq.done (0, d) i) (rend (0, s, q, r) i) := by
  unfold Dq.done rend
  rw [if_pos rfl, if_neg (by simp)]
  refine h.setP ?_
  rw [hd]
  exact ⟨hp.call, hs.symm, hp.x, hp.won, hp.b, hp.t⟩
theorem LikeX.ends {i : Nat} {d r : Dq} (h : LikeX i d r) {c s : Int} (hc : c ≠ 0) (q : Pt) : Like (Dq.done (c, d) i) (rend (c, s, q, r) i) := by
  unfold Dq.done rend
  rw [if_neg hc, if_pos hc]
  exact h.setP (PtLike.refl _)
theorem Like.x {d r : Dq} (h : Like d r) (i : Nat) : LikeX i d r := ⟨h.top, h.bottom, h.room, h.n, h.slots, fun j _ => h.ps j⟩
theorem LikeX.left {i : Nat} {d r : Dq} (h : LikeX i d r) (p : Pt) : LikeX i (d.setP i p) r := ⟨h.top, h.bottom, h.room, h.n, h.slots, fun j hj => by rw [Dq.setP_other _ _ hj]; exact h.ps j hj⟩
theorem LikeX.setB {i : Nat} {d r : Dq} (h : LikeX i d r) (v : Int) : LikeX i (d.setB v) (r.setB v) := ⟨h.top, rfl, h.room, h.n, h.slots, h.ps⟩
theorem LikeX.setT {i : Nat} {d r : Dq} (h : LikeX i d r) (v : Int) : LikeX i (d.setT v) (r.setT v) := ⟨rfl, h.bottom, h.room, h.n, h.slots, h.ps⟩
theorem LikeX.setS {i : Nat} {d r : Dq} (h : LikeX i d r) (k : Nat) (v : Int) : LikeX i (d.setS k v) (r.setS k v) := ⟨h.top, h.bottom, h.room, h.n, by simp only [Dq.setS, h.slots], h.ps⟩

/-- The two steps are alike. -/
theorem Like.step {d r : Dq} {K : Nat} (h : Like d r) (ok : d.Ok K) (i : Nat) (hc : 1 ≤ (d.ps i).call ∧ (d.ps i).call ≤ 3) :
    (rgo r i).1 = (d.go i).1 ∧ Like (Dq.done (d.go i) i) (rend (rgo r i) i) ∧ ((d.go i).1 = 1 → (rgo r i).2.2.1.x = ((d.go i).2.ps i).x) := by
  have hp := h.ps i
  have hk := ok.ps i
  have hs := hk.step
  have hl := hk.live (by omega)
  have hsh := hk.short
  have hX := h.x i
  have ht := h.top
  have hb := h.bottom
  have hr := h.room
  have hsl := h.slots
  unfold rgo Dq.go
  rw [hp.call, hp.step]
  by_cases c1 : (d.ps i).call = 1
  · have hpb := hp.b (by omega)
    have := hsh (.inl c1)
    rw [if_pos c1, if_pos c1]
    unfold Dq.push
    by_cases s1 : (d.ps i).step = 1
    · rw [if_pos s1, if_pos s1]
      refine ⟨rfl, (hX.left _).goes (p := { d.ps i with b := d.bottom }) ?_ (Dq.setP_same _ _ _) (by simp only []; omega), fun e => by simp at e⟩
      exact ⟨hp.call, hp.step, hp.x, hp.won, fun _ => hb, fun e => hp.t e⟩
    rw [if_neg s1, if_neg s1]
    by_cases s2 : (d.ps i).step = 2
    · rw [if_pos s2, if_pos s2, hpb, hr, ht]
      refine ⟨rfl, ?_, fun e => by split at e <;> simp at e⟩
      by_cases hf : d.room ≤ (d.ps i).b - d.top
      · rw [if_pos hf]
        exact (hX.left _).ends (by omega) _
      · rw [if_neg hf]
        refine (hX.left _).goes (p := { d.ps i with t := d.top }) ?_ (Dq.setP_same _ _ _) (by simp only []; omega)
        exact ⟨hp.call, hp.step, hp.x, hp.won, fun e => hp.b e, fun e => absurd c1 e⟩
    rw [if_neg s2, if_neg s2]
    by_cases s3 : (d.ps i).step = 3
    · rw [if_pos s3, if_pos s3, hpb, hp.x, h.at']
      refine ⟨rfl, (hX.setS _ _).goes (p := d.ps i) hp rfl (by omega), fun e => by simp at e⟩
    · rw [if_neg s3, if_neg s3, hpb]
      exact ⟨rfl, (hX.setB _).ends (by decide) _, fun e => by simp at e⟩
  rw [if_neg c1, if_neg c1]
  have hpt := hp.t c1
  by_cases c2 : (d.ps i).call = 2
  · have hpb := hp.b (by omega)
    rw [if_pos c2, if_pos c2]
    unfold Dq.pop
    by_cases s1 : (d.ps i).step = 1
    · rw [if_pos s1, if_pos s1, hb, setB_setP]
      refine ⟨rfl, ((hX.setB _).left _).goes (p := { d.ps i with b := d.bottom - 1 }) ?_ (Dq.setP_same _ _ _) (by simp only []; omega), fun e => by simp at e⟩
      exact ⟨hp.call, hp.step, hp.x, hp.won, fun _ => rfl, fun e => hp.t e⟩
    rw [if_neg s1, if_neg s1]
    by_cases s2 : (d.ps i).step = 2
    · rw [if_pos s2, if_pos s2, hpb, ht]
      refine ⟨rfl, ?_, fun e => by simp at e⟩
      by_cases hf : (d.ps i).b < d.top
      · rw [if_pos hf, if_pos hf]
        unfold Dq.done rend
        rw [if_pos rfl, if_neg (by simp), Dq.setP_same, setP_setP]
        refine hX.setP ?_
        exact ⟨hp.call, rfl, hp.x, hp.won, fun e => hp.b e, fun _ => rfl⟩
      · rw [if_neg hf, if_neg hf]
        refine (hX.left _).goes (p := { d.ps i with t := d.top, step := (d.ps i).step }) ?_ (Dq.setP_same _ _ _) (by simp only []; omega)
        exact ⟨hp.call, hp.step, hp.x, hp.won, fun e => hp.b e, fun _ => rfl⟩
    rw [if_neg s2, if_neg s2]
    by_cases s3 : (d.ps i).step = 3
    · rw [if_pos s3, if_pos s3, hpb, hpt, h.at', hsl]
      refine ⟨rfl, ?_, fun e => by rw [Dq.setP_same]⟩
      by_cases hf : (d.ps i).t < (d.ps i).b
      · rw [if_pos hf]
        exact (hX.left _).ends (by omega) _
      · rw [if_neg hf]
        refine (hX.left _).goes (p := { d.ps i with x := d.slots (d.at' (d.ps i).b) }) ?_ (Dq.setP_same _ _ _) (by simp only []; omega)
        exact ⟨hp.call, hp.step, rfl, hp.won, fun e => hp.b e, fun e => hp.t e⟩
    rw [if_neg s3, if_neg s3]
    by_cases s4 : (d.ps i).step = 4
    · rw [if_pos s4, if_pos s4, hpt, ht]
      by_cases hf : d.top = (d.ps i).t
      · rw [if_pos hf, if_pos hf, ← hf]
        refine ⟨rfl, ((hX.setT _).left _).goes (p := { d.ps i with won := true }) ?_ (Dq.setP_same _ _ _) (by simp only []; omega), fun e => by simp at e⟩
        exact ⟨hp.call, hp.step, hp.x, by simp, fun e => hp.b e, fun e => hp.t e⟩
      · rw [if_neg hf, if_neg hf]
        refine ⟨rfl, (hX.left _).goes (p := { d.ps i with won := false }) ?_ (Dq.setP_same _ _ _) (by simp only []; omega), fun e => by simp at e⟩
        exact ⟨hp.call, hp.step, hp.x, by simpa using hf, fun e => hp.b e, fun e => hp.t e⟩
    · rw [if_neg s4, if_neg s4, hpb, hp.won]
      refine ⟨rfl, ?_, fun _ => hp.x⟩
      exact (hX.setB _).ends (by split <;> omega) _
  · rw [if_neg c2, if_neg c2]
    have c3 : (d.ps i).call = 3 := by omega
    have := hsh (.inr c3)
    unfold Dq.steal
    by_cases s1 : (d.ps i).step = 1
    · rw [if_pos s1, if_pos s1, ht]
      refine ⟨rfl, (hX.left _).goes (p := { d.ps i with t := d.top }) ?_ (Dq.setP_same _ _ _) (by simp only []; omega), fun e => by simp at e⟩
      exact ⟨hp.call, hp.step, hp.x, hp.won, fun e => hp.b e, fun _ => rfl⟩
    rw [if_neg s1, if_neg s1]
    by_cases s2 : (d.ps i).step = 2
    · rw [if_pos s2, if_pos s2, hpt, hb]
      refine ⟨rfl, ?_, fun e => by split at e <;> simp at e⟩
      by_cases hf : d.bottom ≤ (d.ps i).t
      · rw [if_pos hf]
        exact (hX.left _).ends (by omega) _
      · rw [if_neg hf]
        refine (hX.left _).goes (p := { d.ps i with b := d.bottom }) ?_ (Dq.setP_same _ _ _) (by simp only []; omega)
        exact ⟨hp.call, hp.step, hp.x, hp.won, fun e => absurd c3 e, fun e => hp.t e⟩
    rw [if_neg s2, if_neg s2]
    by_cases s3 : (d.ps i).step = 3
    · rw [if_pos s3, if_pos s3, hpt, h.at', hsl]
      refine ⟨rfl, (hX.left _).goes (p := { d.ps i with x := d.slots (d.at' (d.ps i).t) }) ?_ (Dq.setP_same _ _ _) (by simp only []; omega), fun e => by simp at e⟩
      exact ⟨hp.call, hp.step, rfl, hp.won, fun e => hp.b e, fun e => hp.t e⟩
    · rw [if_neg s3, if_neg s3, hpt, ht]
      by_cases hf : d.top = (d.ps i).t
      · rw [if_pos hf, if_pos hf, if_pos hf, ← hf]
        exact ⟨rfl, (hX.setT _).ends (by decide) _, fun _ => hp.x⟩
      · rw [if_neg hf, if_neg hf, if_neg hf]
        exact ⟨rfl, hX.ends (by decide) _, fun e => by simp at e⟩
end Go.Proofs.Ytnjondphbfniaaa
