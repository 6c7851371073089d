/- What stays true of the row's own steps and beginnings: plain. No condition. -/
import Derived.Test.YtnjondphbfniaaaOa
namespace Go.Proofs.Ytnjondphbfniaaa

/-- What lies in the slot of a number. -/
def Dq.c (d : Dq) (n : Int) : Int := d.slots (d.at' n)
def Dq.Safe (d : Dq) (L : Int) (T : Nat → Int) (N : Nat) : Prop := Inv d.top d.bottom d.room L d.c (d.ps 0) d.ps T N

/-- What a step's answer marks. -/
def aft (T : Nat → Int) (N : Nat) (how x : Int) : Nat → Int := if how = 4 then setv T (N - 1) (-1) else if how = 1 then setv T x.toNat 1 else T
/-- What a step may answer. -/
def Told (T : Nat → Int) (N : Nat) (how x : Int) : Prop := (how = 1 → 1 ≤ x ∧ x < N ∧ T x.toNat = 0) ∧ (how = 4 → 2 ≤ N)

def Kept (s : Int × Int × Int × Dq) (T : Nat → Int) (N : Nat) : Prop := Told T N s.1 s.2.1 ∧ ∃ L, s.2.2.2.Safe L (aft T N s.1 s.2.1) N

theorem setP_self {d : Dq} {i : Nat} {p : Pt} (h : d.ps i = p) : d.setP i p = d := by
  obtain ⟨t, b, r, s, ps, n⟩ := d
  simp only [Dq.setP, Dq.mk.injEq, true_and]
  refine ⟨?_, trivial⟩
  funext j
  split
  · rename_i e; rw [e]; exact h.symm
  · rfl

theorem step_self {d : Dq} {i : Nat} {p : Pt} (h : d.ps i = p) {s : Int × Int × Int × Dq} (hs : (d.setP i p).step i = s) : d.step i = s := by
  rw [setP_self h] at hs
  exact hs

/-- A step of the worker that answers nothing. -/
theorem Kept.own0 {d g : Dq} {L : Int} {T : Nat → Int} {N : Nat} {e : Int} {p : Pt} (ht : Inv g.top g.bottom g.room L g.c p g.ps T N) {how : Int} (h1 : how ≠ 1) (h4 : how ≠ 4) : Kept (how, 0, e, g.setP 0 p) T N := by
  refine ⟨⟨fun h => absurd h h1, fun h => absurd h h4⟩, L, ?_⟩
  unfold aft
  rw [if_neg h4, if_neg h1]
  show Inv g.top g.bottom g.room L g.c ((g.setP 0 p).ps 0) (g.setP 0 p).ps T N
  rw [Dq.setP_same]
  exact ht.other fun i hi => Dq.setP_other _ _ hi

theorem Kept.own1 {g : Dq} {L : Int} {T : Nat → Int} {N : Nat} {e x : Int} {p : Pt} (h0 : 1 ≤ x ∧ x < N ∧ T x.toNat = 0) (ht : Inv g.top g.bottom g.room L g.c p g.ps (setv T x.toNat 1) N) : Kept (1, x, e, g.setP 0 p) T N := by
  refine ⟨⟨fun _ => h0, fun h => by simp at h⟩, L, ?_⟩
  unfold aft
  rw [if_neg (by simp), if_pos rfl]
  show Inv g.top g.bottom g.room L g.c ((g.setP 0 p).ps 0) (g.setP 0 p).ps (setv T x.toNat 1) N
  rw [Dq.setP_same]
  exact ht.other fun i hi => Dq.setP_other _ _ hi

theorem Kept.own4 {g : Dq} {L : Int} {T : Nat → Int} {N : Nat} {e : Int} {p : Pt} (h0 : 2 ≤ N) (ht : Inv g.top g.bottom g.room L g.c p g.ps (setv T (N - 1) (-1)) N) : Kept (4, 0, e, g.setP 0 p) T N := by
  refine ⟨⟨fun h => by simp at h, fun _ => h0⟩, L, ?_⟩
  unfold aft
  rw [if_pos rfl]
  show Inv g.top g.bottom g.room L g.c ((g.setP 0 p).ps 0) (g.setP 0 p).ps (setv T (N - 1) (-1)) N
  rw [Dq.setP_same]
  exact ht.other fun i hi => Dq.setP_other _ _ hi

/-- A step of a thief. -/
theorem Kept.th0 {g : Dq} {L : Int} {T : Nat → Int} {N i : Nat} {e : Int} {p : Pt} (hi : i ≠ 0) (ht : Inv g.top g.bottom g.room L g.c (g.ps 0) (fun j => if j = i then p else g.ps j) T N) {how : Int} (h1 : how ≠ 1) (h4 : how ≠ 4) : Kept (how, 0, e, g.setP i p) T N := by
  refine ⟨⟨fun h => absurd h h1, fun h => absurd h h4⟩, L, ?_⟩
  unfold aft
  rw [if_neg h4, if_neg h1]
  show Inv g.top g.bottom g.room L g.c ((g.setP i p).ps 0) (g.setP i p).ps T N
  rw [Dq.setP_other _ _ (fun h => hi h.symm)]
  exact ht

theorem Kept.th1 {g : Dq} {L : Int} {T : Nat → Int} {N i : Nat} {e x : Int} {p : Pt} (hi : i ≠ 0) (h0 : 1 ≤ x ∧ x < N ∧ T x.toNat = 0) (ht : Inv g.top g.bottom g.room L g.c (g.ps 0) (fun j => if j = i then p else g.ps j) (setv T x.toNat 1) N) : Kept (1, x, e, g.setP i p) T N := by
  refine ⟨⟨fun _ => h0, fun h => by simp at h⟩, L, ?_⟩
  unfold aft
  rw [if_neg (by simp), if_pos rfl]
  show Inv g.top g.bottom g.room L g.c ((g.setP i p).ps 0) (g.setP i p).ps (setv T x.toNat 1) N
  rw [Dq.setP_other _ _ (fun h => hi h.symm)]
  exact ht

/-- Two numbers less than a room apart lie in different slots. -/
theorem at_ne {d : Dq} (hr : 1 ≤ d.room) {n m : Int} (h1 : n < m) (h2 : m - n < d.room) : d.at' n ≠ d.at' m := by
  intro h
  unfold Dq.at' at h
  have a1 := Int.emod_nonneg n (show d.room ≠ 0 by omega)
  have a2 := Int.emod_nonneg m (show d.room ≠ 0 by omega)
  have h3 : n % d.room = m % d.room := by omega
  have h5 := Int.emod_eq_emod_iff_emod_sub_eq_zero.1 h3.symm
  rw [Int.emod_eq_of_lt (by omega) h2] at h5
  omega

theorem Dq.Safe.step {d : Dq} {L : Int} {T : Nat → Int} {N K : Nat} (h : d.Safe L T N) (ok : d.Ok K) (who : Int) : Kept (d.step who) T N := by
  have hno : ∀ e : Int, Kept (0, 0, e, d) T N := fun e => ⟨⟨fun h => by simp at h, fun h => by simp at h⟩, L, h⟩
  cases hh : d.has who with
  | false =>
    unfold Dq.step
    rw [hh, if_neg (by simp)]
    exact hno 1
  | true =>
    obtain ⟨h0, h1⟩ := Dq.has_iff.1 hh
    obtain ⟨i, rfl⟩ := Int.eq_ofNat_of_zero_le h0
    have hi : i < d.n := by omega
    by_cases hc : 1 ≤ (d.ps i).call ∧ (d.ps i).call ≤ 3
    · have q := ok.ps i
      have q1 := q.who
      have q2 := q.step
      have q3 := q.live (by omega)
      have q4 := q.short
      rcases hp : d.ps i with ⟨cc, s, b, t, x, w⟩
      rw [hp] at hc q1 q2 q3 q4
      simp only at hc q1 q2 q3 q4
      rcases (show cc = 1 ∨ cc = 2 ∨ cc = 3 by omega) with rfl | rfl | rfl
      · obtain rfl := q1.1 (.inl rfl)
        have hI : Inv d.top d.bottom d.room L d.c ⟨1, s, b, t, x, w⟩ d.ps T N := by rw [← hp]; exact h
        have q5 := q4 (.inl rfl)
        rcases (show s = 1 ∨ s = 2 ∨ s = 3 ∨ s = 4 by omega) with rfl | rfl | rfl | rfl
        · rw [step_self hp (st11 hi)]
          exact Kept.own0 (g := d) (d := d) hI.push1 (by simp) (by simp)
        · by_cases hr : d.room ≤ b - d.top
          · rw [step_self hp (st12f hi hr)]
            exact Kept.own4 (g := d) (hI.push rfl).2.1 (hI.push2f hr)
          · rw [step_self hp (st12 hi hr)]
            exact Kept.own0 (g := d) (d := d) (hI.push2 hr) (by simp) (by simp)
        · rw [step_self hp (st13 hi)]
          have k1 := hI.hL2 (by simp)
          have k2 := hI.eqb (.inl rfl) (by simp)
          have k3 := hI.push3 rfl (by simp)
          simp only at k2 k3
          refine Kept.own0 (g := d.setS (d.at' b) x) (d := d) (hI.push3w (c' := (d.setS (d.at' b) x).c) ?_ ?_) (by simp) (by simp)
          · show (if d.at' b = d.at' b then x else d.slots (d.at' b)) = x
            rw [if_pos rfl]
          · intro n n1 n2
            show (if d.at' n = d.at' b then x else d.slots (d.at' n)) = d.slots (d.at' n)
            rw [if_neg (at_ne ok.room.1 (by omega) (by omega))]
        · rw [step_self hp (st14 hi)]
          exact Kept.own0 (g := d.setB (b + 1)) (d := d) hI.push4w (by simp) (by simp)
      · obtain rfl := q1.1 (.inr rfl)
        have hI : Inv d.top d.bottom d.room L d.c ⟨2, s, b, t, x, w⟩ d.ps T N := by rw [← hp]; exact h
        rcases (show s = 1 ∨ s = 2 ∨ s = 3 ∨ s = 4 ∨ s = 5 by omega) with rfl | rfl | rfl | rfl | rfl
        · rw [step_self hp (st21 hi)]
          exact Kept.own0 (g := d.setB (d.bottom - 1)) (d := d) hI.pop1 (by simp) (by simp)
        · by_cases hr : b < d.top
          · rw [step_self hp (st22e hi hr)]
            exact Kept.own0 (g := d) (d := d) (hI.pop2e hr) (by simp) (by simp)
          · rw [step_self hp (st22 hi hr)]
            exact Kept.own0 (g := d) (d := d) (hI.pop2 hr) (by simp) (by simp)
        · have k1 := hI.hL1 rfl (by simp)
          have k2 := hI.eqb (.inr rfl) (by simp)
          have k3 := hI.pop3 rfl rfl
          simp only at k2 k3
          by_cases hr : t < b
          · rw [step_self hp (st23 hi hr)]
            exact Kept.own1 (g := d) (hI.cont b (by omega) (by omega)) (hI.pop3w hr)
          · rw [step_self hp (st23e hi hr)]
            exact Kept.own0 (g := d) (d := d) (hI.pop3e hr) (by simp) (by simp)
        · by_cases hr : d.top = t
          · rw [step_self hp (st24 hi hr)]
            exact Kept.own0 (g := d.setT (d.top + 1)) (d := d) (hI.pop4w hr) (by simp) (by simp)
          · rw [step_self hp (st24n hi hr)]
            exact Kept.own0 (g := d) (d := d) (hI.pop4n hr) (by simp) (by simp)
        · cases w with
          | true =>
            rw [step_self hp (st25 hi)]
            exact Kept.own1 (g := d.setB (b + 1)) (hI.won rfl rfl rfl) hI.pop5w
          | false =>
            rw [step_self hp (st25n hi)]
            exact Kept.own0 (g := d.setB (b + 1)) (d := d) hI.pop5n (by simp) (by simp)
      · have i0 := q1.2 rfl
        have q5 := q4 (.inr rfl)
        rcases (show s = 1 ∨ s = 2 ∨ s = 3 ∨ s = 4 by omega) with rfl | rfl | rfl | rfl
        · rw [step_self hp (st31 hi)]
          exact Kept.th0 (g := d) i0 (Inv.th1 h i0 hp) (by simp) (by simp)
        · by_cases hr : d.bottom ≤ t
          · rw [step_self hp (st32e hi hr)]
            exact Kept.th0 (g := d) i0 (Inv.gone h i0 hp) (by simp) (by simp)
          · rw [step_self hp (st32 hi hr)]
            exact Kept.th0 (g := d) i0 (Inv.th2w h i0 hp hr) (by simp) (by simp)
        · rw [step_self hp (st33 hi)]
          exact Kept.th0 (g := d) i0 (Inv.th3w h i0 hp) (by simp) (by simp)
        · by_cases hr : d.top = t
          · rw [step_self hp (st34 hi hr)]
            have k3 := h.th3 i i0 (by rw [hp]) (by rw [hp]; simp) (by rw [hp]; exact hr)
            have k4 := h.th4 i i0 (by rw [hp]) (by rw [hp]) (by rw [hp]; exact hr)
            rw [hp] at k3 k4
            simp only at k3 k4
            refine Kept.th1 (g := d.setT (d.top + 1)) i0 ?_ (Inv.th4w h i0 hp hr)
            rw [k4]
            exact h.cont t (by omega) k3
          · rw [step_self hp (st34n hi hr)]
            exact Kept.th0 (g := d) i0 (Inv.gone h i0 hp) (by simp) (by simp)
    · unfold Dq.step
      rw [hh, if_pos rfl, Int.toNat_natCast, if_neg hc]
      exact hno 5

/-- The worker's push is begun: it is the next number. -/
theorem Dq.Safe.bPush {d : Dq} {L : Int} {T : Nat → Int} {N : Nat} (h : d.Safe L T N) (h0 : (d.begin 0 1 N).1 = 0) : (d.begin 0 1 N).2.Safe L (setv T N 0) (N + 1) := by
  unfold Dq.begin at h0 ⊢
  split at h0
  · rename_i hh
    rw [if_pos hh]
    split at h0
    · rename_i hc
      rw [if_pos hc]
      have ht : Inv d.top d.bottom d.room L d.c ⟨1, 1, 0, 0, N, false⟩ d.ps (setv T N 0) (N + 1) := Inv.bPush h hc
      show Inv d.top d.bottom d.room L d.c ((d.setP 0 ⟨1, 1, 0, 0, N, false⟩).ps 0) (d.setP 0 ⟨1, 1, 0, 0, N, false⟩).ps (setv T N 0) (N + 1)
      rw [Dq.setP_same]
      exact ht.other fun i hi => Dq.setP_other _ _ hi
    · simp at h0
  · simp at h0

theorem Dq.Safe.bPushNo {d : Dq} {x : Int} (h0 : (d.begin 0 1 x).1 ≠ 0) : (d.begin 0 1 x).2 = d := by
  unfold Dq.begin at h0 ⊢
  split at h0
  · rename_i hh
    rw [if_pos hh]
    split at h0
    · simp at h0
    · rename_i hc
      rw [if_neg hc]
  · rename_i hh
    rw [if_neg hh]

theorem Dq.Safe.bPop {d : Dq} {L : Int} {T : Nat → Int} {N : Nat} (h : d.Safe L T N) : (d.begin 0 2 0).2.Safe L T N := by
  unfold Dq.begin
  split
  · split
    · rename_i hc
      have ht : Inv d.top d.bottom d.room L d.c ⟨2, 1, 0, 0, 0, false⟩ d.ps T N := Inv.bPop h hc
      show Inv d.top d.bottom d.room L d.c ((d.setP 0 ⟨2, 1, 0, 0, 0, false⟩).ps 0) (d.setP 0 ⟨2, 1, 0, 0, 0, false⟩).ps T N
      rw [Dq.setP_same]
      exact ht.other fun i hi => Dq.setP_other _ _ hi
    · exact h
  · exact h

theorem Dq.Safe.theft {d : Dq} {L : Int} {T : Nat → Int} {N : Nat} (h : d.Safe L T N) (who : Int) : (d.theft who).2.Safe L T N := by
  unfold Dq.theft
  split
  · exact h
  · rename_i h0
    unfold Dq.begin
    split
    · rename_i hh
      obtain ⟨g0, g1⟩ := Dq.has_iff.1 hh
      obtain ⟨i, rfl⟩ := Int.eq_ofNat_of_zero_le g0
      have i0 : i ≠ 0 := by omega
      rw [Int.toNat_natCast]
      split
      · rename_i hc
        rcases hp : d.ps i with ⟨cc, s, b, t, x, w⟩
        show Inv d.top d.bottom d.room L d.c ((d.setP i ⟨3, 1, 0, 0, 0, false⟩).ps 0) (d.setP i ⟨3, 1, 0, 0, 0, false⟩).ps T N
        rw [Dq.setP_other _ _ (fun h => i0 h.symm)]
        exact Inv.bSteal h i0 hp
      · exact h
    · exact h

theorem Dq.Safe.fresh (room thieves : Int) : (Dq.fresh room thieves).Safe 0 (fun _ => 0) 1 := by
  have hr := (Dq.Ok.fresh room thieves).room
  refine ⟨by omega, ?_, ?_, ?_, ?_, ?_, ?_, ?_, ?_, ?_, ?_, ?_, ?_, ?_, ?_, ?_, ?_, ?_, ?_, ?_, ?_⟩
  case refine_3 => exact ⟨by simp [Dq.fresh], by show (0 : Int) - 0 ≤ (Dq.fresh room thieves).room; omega⟩
  case refine_4 => intro n h1 h2; simp only [Dq.fresh] at h1; omega
  case refine_5 => intro n m h1 h2 h3; simp only [Dq.fresh] at h1; omega
  all_goals simp [Dq.fresh, Pt.none, zer]
end Go.Proofs.Ytnjondphbfniaaa
