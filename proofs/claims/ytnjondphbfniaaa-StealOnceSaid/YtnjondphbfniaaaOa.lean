/- What stays true of a row that one worker and several thieves share, however their steps come: what was put in lies there once, or was taken once. Plain. No condition. -/
import Derived.Test.YtnjondphbfniaaaV
namespace Go.Proofs.Ytnjondphbfniaaa

/-- A function turned at one number. -/
def setv (T : Nat → Int) (v : Nat) (y : Int) : Nat → Int := fun k => if k = v then y else T k
theorem setv_same (T : Nat → Int) (v : Nat) (y : Int) : setv T v y v = y := by simp [setv]
theorem setv_other (T : Nat → Int) {v k : Nat} (y : Int) (h : k ≠ v) : setv T v y k = T k := by simp [setv, h]

/-- How many of the numbers 1 .. M are marked 0. -/
def zer (T : Nat → Int) : Nat → Int
  | 0 => 0
  | n + 1 => zer T n + if T (n + 1) = 0 then 1 else 0

theorem zer_congr {T T' : Nat → Int} : ∀ {M : Nat}, (∀ v, 1 ≤ v → v ≤ M → T' v = T v) → zer T' M = zer T M
  | 0, _ => rfl
  | M + 1, h => by
    unfold zer
    rw [zer_congr (M := M) (fun v h1 h2 => h v h1 (by omega)), h (M + 1) (by omega) (by omega)]

theorem zer_set {T : Nat → Int} {v : Nat} {y : Int} (h0 : T v = 0) (hy : y ≠ 0) : ∀ {M : Nat}, 1 ≤ v → v ≤ M → zer (setv T v y) M = zer T M - 1
  | 0, h1, h2 => by omega
  | M + 1, h1, h2 => by
    unfold zer
    by_cases e : v = M + 1
    · subst e
      rw [zer_congr (T := T) (T' := setv T (M + 1) y) (M := M) (fun k _ hk => setv_other _ _ (by omega)), setv_same, if_neg hy, if_pos h0]
      omega
    · rw [zer_set h0 hy h1 (by omega), setv_other _ _ (fun h => e h.symm)]
      omega

theorem zer_bd (T : Nat → Int) : ∀ M, 0 ≤ zer T M ∧ zer T M ≤ M
  | 0 => by simp [zer]
  | M + 1 => by
    have := zer_bd T M
    unfold zer
    split <;> omega

/-- What stays true: L is where the row ends, as the one at its lower end sees it; p the worker, q the parties; T tells of each number whether it is there (0), was taken (1), or found no room (-1); N the next number. -/
structure Inv (top bottom room L : Int) (c : Int → Int) (p : Pt) (q : Nat → Pt) (T : Nat → Int) (N : Nat) : Prop where
  pos : 1 ≤ N
  hL1 : p.call = 2 → 2 ≤ p.step → L = bottom + 1
  hL2 : ¬ (p.call = 2 ∧ 2 ≤ p.step) → L = bottom
  bound : top ≤ L ∧ L - top ≤ room
  cont : ∀ n, top ≤ n → n < L → 1 ≤ c n ∧ c n < N ∧ T (c n).toNat = 0
  inc : ∀ n m, top ≤ n → n < m → m < L → c n < c m
  count : zer T (N - 1) = (L - top) + (if p.call = 2 ∧ p.step = 5 ∧ p.won = true then 1 else 0) + (if p.call = 1 then 1 else 0)
  won : p.call = 2 → p.step = 5 → p.won = true → 1 ≤ p.x ∧ p.x < N ∧ T p.x.toNat = 0
  low : p.call = 2 → p.step ≤ 4 → p.won = false
  push : p.call = 1 → p.x = (N : Int) - 1 ∧ 2 ≤ N ∧ T (N - 1) = 0 ∧ ∀ n, top ≤ n → n < L → c n < (N : Int) - 1
  eqb : p.call = 1 ∨ p.call = 2 → 2 ≤ p.step → p.b = bottom
  push3 : p.call = 1 → 3 ≤ p.step → p.t ≤ top ∧ p.b - p.t < room
  push4 : p.call = 1 → p.step = 4 → c p.b = p.x
  pop3 : p.call = 2 → p.step = 3 → p.t ≤ top ∧ p.t ≤ p.b ∧ (p.t < p.b → top ≤ p.b)
  pop3t : p.call = 2 → p.step = 3 → p.t < p.b → ∀ i, i ≠ 0 → (q i).call = 3 → 3 ≤ (q i).step → (q i).t < p.b
  pop4 : p.call = 2 → p.step = 4 → p.t = p.b ∧ p.t ≤ top
  pop4x : p.call = 2 → p.step = 4 → top = p.t → p.x = c p.b
  pop5 : p.call = 2 → p.step = 5 → top = p.b + 1
  th2 : ∀ i, i ≠ 0 → (q i).call = 3 → 2 ≤ (q i).step → (q i).t ≤ top
  th3 : ∀ i, i ≠ 0 → (q i).call = 3 → 3 ≤ (q i).step → top = (q i).t → (q i).t < L
  th4 : ∀ i, i ≠ 0 → (q i).call = 3 → (q i).step = 4 → top = (q i).t → (q i).x = c (q i).t

section
variable {top bottom room L b t x : Int} {w : Bool} {c : Int → Int} {p : Pt} {q : Nat → Pt} {T : Nat → Int} {N : Nat}

/-- Of the parties, the worker aside, nothing else counts. -/
theorem Inv.other {q' : Nat → Pt} (h : Inv top bottom room L c p q T N) (e : ∀ i, i ≠ 0 → q' i = q i) : Inv top bottom room L c p q' T N :=
  ⟨h.pos, h.hL1, h.hL2, h.bound, h.cont, h.inc, h.count, h.won, h.low, h.push, h.eqb, h.push3, h.push4, h.pop3, fun a1 a2 a3 i hi => by rw [e i hi]; exact h.pop3t a1 a2 a3 i hi, h.pop4, h.pop4x, h.pop5,
    fun i hi => by rw [e i hi]; exact h.th2 i hi, fun i hi => by rw [e i hi]; exact h.th3 i hi, fun i hi => by rw [e i hi]; exact h.th4 i hi⟩

theorem toNat_ne {a : Int} {n : Nat} (h : a ≠ n) (h0 : 0 ≤ a) : a.toNat ≠ n := by omega

theorem Inv.push1 (h : Inv top bottom room L c ⟨1, 1, b, t, x, w⟩ q T N) : Inv top bottom room L c ⟨1, 2, bottom, t, x, w⟩ q T N := by
  have k0 := h.hL1
  have k1 := h.hL2
  have k2 := h.bound
  have k3 := h.eqb
  have k4 := h.push3
  have k5 := h.pop3
  have k6 := h.pop4
  have k7 := h.pop5
  try dsimp only at k0 k1 k2 k3 k4 k5 k6 k7
  refine ⟨?f_pos, ?f_hL1, ?f_hL2, ?f_bound, ?f_cont, ?f_inc, ?f_count, ?f_won, ?f_low, ?f_push, ?f_eqb, ?f_push3, ?f_push4, ?f_pop3, ?f_pop3t, ?f_pop4, ?f_pop4x, ?f_pop5, ?f_th2, ?f_th3, ?f_th4⟩
  case f_pos =>
    exact h.pos
  case f_hL1 =>
    try dsimp only
    omega
  case f_hL2 =>
    try dsimp only
    omega
  case f_bound =>
    try dsimp only
    omega
  case f_cont =>
    exact h.cont
  case f_inc =>
    exact h.inc
  case f_count =>
    have k := h.count
    first
      | exact k
      | (simp [Pt.none] at k ⊢; omega)
  case f_won =>
    first
      | exact h.won
      | (intro a1; intros; simp [Pt.none] at a1; done)
      | (intro a1 a2; intros; simp [Pt.none] at a2; done)
  case f_low =>
    first
      | exact h.low
      | (intro a1; intros; simp [Pt.none] at a1; done)
      | (intro a1 a2; simp at a2; done)
      | (intros; exact h.low rfl (by simp))
  case f_push =>
    first
      | exact h.push
      | (intro a1; intros; simp [Pt.none] at a1; done)
      | (intro a1 a2; intros; simp [Pt.none] at a2; done)
  case f_eqb =>
    try dsimp only
    omega
  case f_push3 =>
    try dsimp only
    omega
  case f_push4 =>
    first
      | exact h.push4
      | (intro a1; intros; simp [Pt.none] at a1; done)
      | (intro a1 a2; intros; simp [Pt.none] at a2; done)
  case f_pop3 =>
    try dsimp only
    omega
  case f_pop3t =>
    first
      | exact h.pop3t
      | (intro a1; intros; simp [Pt.none] at a1; done)
      | (intro a1 a2; intros; simp at a2; done)
  case f_pop4 =>
    try dsimp only
    omega
  case f_pop4x =>
    first
      | exact h.pop4x
      | (intro a1; intros; simp [Pt.none] at a1; done)
      | (intro a1 a2; intros; simp [Pt.none] at a2; done)
  case f_pop5 =>
    try dsimp only
    omega
  case f_th2 =>
    exact h.th2
  case f_th3 =>
    exact h.th3
  case f_th4 =>
    exact h.th4

theorem Inv.push2 (h : Inv top bottom room L c ⟨1, 2, b, t, x, w⟩ q T N) (hr : ¬ room ≤ b - top) : Inv top bottom room L c ⟨1, 3, b, top, x, w⟩ q T N := by
  have k0 := h.hL1
  have k1 := h.hL2
  have k2 := h.bound
  have k3 := h.eqb
  have k4 := h.push3
  have k5 := h.pop3
  have k6 := h.pop4
  have k7 := h.pop5
  try dsimp only at k0 k1 k2 k3 k4 k5 k6 k7
  refine ⟨?f_pos, ?f_hL1, ?f_hL2, ?f_bound, ?f_cont, ?f_inc, ?f_count, ?f_won, ?f_low, ?f_push, ?f_eqb, ?f_push3, ?f_push4, ?f_pop3, ?f_pop3t, ?f_pop4, ?f_pop4x, ?f_pop5, ?f_th2, ?f_th3, ?f_th4⟩
  case f_pos =>
    exact h.pos
  case f_hL1 =>
    try dsimp only
    omega
  case f_hL2 =>
    try dsimp only
    omega
  case f_bound =>
    try dsimp only
    omega
  case f_cont =>
    exact h.cont
  case f_inc =>
    exact h.inc
  case f_count =>
    have k := h.count
    first
      | exact k
      | (simp [Pt.none] at k ⊢; omega)
  case f_won =>
    first
      | exact h.won
      | (intro a1; intros; simp [Pt.none] at a1; done)
      | (intro a1 a2; intros; simp [Pt.none] at a2; done)
  case f_low =>
    first
      | exact h.low
      | (intro a1; intros; simp [Pt.none] at a1; done)
      | (intro a1 a2; simp at a2; done)
      | (intros; exact h.low rfl (by simp))
  case f_push =>
    first
      | exact h.push
      | (intro a1; intros; simp [Pt.none] at a1; done)
      | (intro a1 a2; intros; simp [Pt.none] at a2; done)
  case f_eqb =>
    try dsimp only
    omega
  case f_push3 =>
    try dsimp only
    omega
  case f_push4 =>
    first
      | exact h.push4
      | (intro a1; intros; simp [Pt.none] at a1; done)
      | (intro a1 a2; intros; simp [Pt.none] at a2; done)
  case f_pop3 =>
    try dsimp only
    omega
  case f_pop3t =>
    first
      | exact h.pop3t
      | (intro a1; intros; simp [Pt.none] at a1; done)
      | (intro a1 a2; intros; simp at a2; done)
  case f_pop4 =>
    try dsimp only
    omega
  case f_pop4x =>
    first
      | exact h.pop4x
      | (intro a1; intros; simp [Pt.none] at a1; done)
      | (intro a1 a2; intros; simp [Pt.none] at a2; done)
  case f_pop5 =>
    try dsimp only
    omega
  case f_th2 =>
    exact h.th2
  case f_th3 =>
    exact h.th3
  case f_th4 =>
    exact h.th4

theorem Inv.push2f (h : Inv top bottom room L c ⟨1, 2, b, t, x, w⟩ q T N) (_hr : room ≤ b - top) : Inv top bottom room L c Pt.none q (setv T (N - 1) (-1)) N := by
  have k0 := h.hL1
  have k1 := h.hL2
  have k2 := h.bound
  have k3 := h.eqb
  have k4 := h.push3
  have k5 := h.pop3
  have k6 := h.pop4
  have k7 := h.pop5
  try dsimp only at k0 k1 k2 k3 k4 k5 k6 k7
  obtain ⟨hp1, hp2, hp3, hp4⟩ := h.push rfl
  dsimp only at hp1
  refine ⟨?f_pos, ?f_hL1, ?f_hL2, ?f_bound, ?f_cont, ?f_inc, ?f_count, ?f_won, ?f_low, ?f_push, ?f_eqb, ?f_push3, ?f_push4, ?f_pop3, ?f_pop3t, ?f_pop4, ?f_pop4x, ?f_pop5, ?f_th2, ?f_th3, ?f_th4⟩
  case f_pos =>
    exact h.pos
  case f_hL1 =>
    try dsimp only [Pt.none]
    omega
  case f_hL2 =>
    try dsimp only [Pt.none]
    omega
  case f_bound =>
    try dsimp only [Pt.none]
    omega
  case f_cont =>
    intro n h1 h2
    obtain ⟨g1, g2, g3⟩ := h.cont n h1 h2
    have g4 := hp4 n h1 h2
    refine ⟨g1, g2, ?_⟩
    rw [setv_other _ _ (by omega)]
    exact g3
  case f_inc =>
    exact h.inc
  case f_count =>
    have k := h.count
    rw [zer_set hp3 (by omega) (by omega) (by omega), k]
    simp [Pt.none]
  case f_won =>
    first
      | exact h.won
      | (intro a1; intros; simp [Pt.none] at a1; done)
      | (intro a1 a2; intros; simp [Pt.none] at a2; done)
  case f_low =>
    first
      | exact h.low
      | (intro a1; intros; simp [Pt.none] at a1; done)
      | (intro a1 a2; simp at a2; done)
      | (intros; exact h.low rfl (by simp))
  case f_push =>
    first
      | exact h.push
      | (intro a1; intros; simp [Pt.none] at a1; done)
      | (intro a1 a2; intros; simp [Pt.none] at a2; done)
  case f_eqb =>
    try dsimp only [Pt.none]
    omega
  case f_push3 =>
    try dsimp only [Pt.none]
    omega
  case f_push4 =>
    first
      | exact h.push4
      | (intro a1; intros; simp [Pt.none] at a1; done)
      | (intro a1 a2; intros; simp [Pt.none] at a2; done)
  case f_pop3 =>
    try dsimp only [Pt.none]
    omega
  case f_pop3t =>
    first
      | exact h.pop3t
      | (intro a1; intros; simp [Pt.none] at a1; done)
      | (intro a1 a2; intros; simp at a2; done)
  case f_pop4 =>
    try dsimp only [Pt.none]
    omega
  case f_pop4x =>
    first
      | exact h.pop4x
      | (intro a1; intros; simp [Pt.none] at a1; done)
      | (intro a1 a2; intros; simp [Pt.none] at a2; done)
  case f_pop5 =>
    try dsimp only [Pt.none]
    omega
  case f_th2 =>
    exact h.th2
  case f_th3 =>
    exact h.th3
  case f_th4 =>
    exact h.th4

theorem Inv.push3w (h : Inv top bottom room L c ⟨1, 3, b, t, x, w⟩ q T N) {c' : Int → Int} (hc : c' b = x) (hc2 : ∀ n, top ≤ n → n < L → c' n = c n) : Inv top bottom room L c' ⟨1, 4, b, t, x, w⟩ q T N := by
  have k0 := h.hL1
  have k1 := h.hL2
  have k2 := h.bound
  have k3 := h.eqb
  have k4 := h.push3
  have k5 := h.pop3
  have k6 := h.pop4
  have k7 := h.pop5
  try dsimp only at k0 k1 k2 k3 k4 k5 k6 k7
  refine ⟨?f_pos, ?f_hL1, ?f_hL2, ?f_bound, ?f_cont, ?f_inc, ?f_count, ?f_won, ?f_low, ?f_push, ?f_eqb, ?f_push3, ?f_push4, ?f_pop3, ?f_pop3t, ?f_pop4, ?f_pop4x, ?f_pop5, ?f_th2, ?f_th3, ?f_th4⟩
  case f_pos =>
    exact h.pos
  case f_hL1 =>
    try dsimp only
    omega
  case f_hL2 =>
    try dsimp only
    omega
  case f_bound =>
    try dsimp only
    omega
  case f_cont =>
    intro n h1 h2
    rw [hc2 n h1 h2]
    exact h.cont n h1 h2
  case f_inc =>
    intro n m h1 h2 h3
    rw [hc2 n h1 (by omega), hc2 m (by omega) h3]
    exact h.inc n m h1 h2 h3
  case f_count =>
    have k := h.count
    first
      | exact k
      | (simp [Pt.none] at k ⊢; omega)
  case f_won =>
    first
      | exact h.won
      | (intro a1; intros; simp [Pt.none] at a1; done)
      | (intro a1 a2; intros; simp [Pt.none] at a2; done)
  case f_low =>
    first
      | exact h.low
      | (intro a1; intros; simp [Pt.none] at a1; done)
      | (intro a1 a2; simp at a2; done)
      | (intros; exact h.low rfl (by simp))
  case f_push =>
    intro _
    obtain ⟨g1, g2, g3, g4⟩ := h.push rfl
    exact ⟨g1, g2, g3, fun n h1 h2 => by rw [hc2 n h1 h2]; exact g4 n h1 h2⟩
  case f_eqb =>
    try dsimp only
    omega
  case f_push3 =>
    try dsimp only
    omega
  case f_push4 =>
    intros
    exact hc
  case f_pop3 =>
    try dsimp only
    omega
  case f_pop3t =>
    first
      | exact h.pop3t
      | (intro a1; intros; simp [Pt.none] at a1; done)
      | (intro a1 a2; intros; simp at a2; done)
  case f_pop4 =>
    try dsimp only
    omega
  case f_pop4x =>
    first
      | exact h.pop4x
      | (intro a1; intros; simp [Pt.none] at a1; done)
      | (intro a1 a2; intros; simp [Pt.none] at a2; done)
  case f_pop5 =>
    try dsimp only
    omega
  case f_th2 =>
    exact h.th2
  case f_th3 =>
    exact h.th3
  case f_th4 =>
    intro i h1 h2 h3 h4
    have g := h.th3 i h1 h2 (by omega) h4
    rw [hc2 _ (by omega) g]
    exact h.th4 i h1 h2 h3 h4

theorem Inv.push4w (h : Inv top bottom room L c ⟨1, 4, b, t, x, w⟩ q T N) : Inv top (b + 1) room (b + 1) c Pt.none q T N := by
  have k0 := h.hL1
  have k1 := h.hL2
  have k2 := h.bound
  have k3 := h.eqb
  have k4 := h.push3
  have k5 := h.pop3
  have k6 := h.pop4
  have k7 := h.pop5
  try dsimp only at k0 k1 k2 k3 k4 k5 k6 k7
  obtain ⟨hp1, hp2, hp3, hp4⟩ := h.push rfl
  have hx := h.push4 rfl rfl
  dsimp only at hp1 hx
  refine ⟨?f_pos, ?f_hL1, ?f_hL2, ?f_bound, ?f_cont, ?f_inc, ?f_count, ?f_won, ?f_low, ?f_push, ?f_eqb, ?f_push3, ?f_push4, ?f_pop3, ?f_pop3t, ?f_pop4, ?f_pop4x, ?f_pop5, ?f_th2, ?f_th3, ?f_th4⟩
  case f_pos =>
    exact h.pos
  case f_hL1 =>
    try dsimp only [Pt.none]
    omega
  case f_hL2 =>
    try dsimp only [Pt.none]
    omega
  case f_bound =>
    try dsimp only [Pt.none]
    omega
  case f_cont =>
    intro n h1 h2
    by_cases e : n < L
    · exact h.cont n h1 e
    · obtain rfl : n = b := by omega
      rw [hx, hp1, show ((N : Int) - 1).toNat = N - 1 by omega]
      exact ⟨by omega, by omega, hp3⟩
  case f_inc =>
    intro n m h1 h2 h3
    by_cases e : m < L
    · exact h.inc n m h1 h2 e
    · obtain rfl : m = b := by omega
      rw [hx, hp1]
      exact hp4 n h1 (by omega)
  case f_count =>
    have k := h.count
    first
      | exact k
      | (simp [Pt.none] at k ⊢; omega)
  case f_won =>
    first
      | exact h.won
      | (intro a1; intros; simp [Pt.none] at a1; done)
      | (intro a1 a2; intros; simp [Pt.none] at a2; done)
  case f_low =>
    first
      | exact h.low
      | (intro a1; intros; simp [Pt.none] at a1; done)
      | (intro a1 a2; simp at a2; done)
      | (intros; exact h.low rfl (by simp))
  case f_push =>
    first
      | exact h.push
      | (intro a1; intros; simp [Pt.none] at a1; done)
      | (intro a1 a2; intros; simp [Pt.none] at a2; done)
  case f_eqb =>
    try dsimp only [Pt.none]
    omega
  case f_push3 =>
    try dsimp only [Pt.none]
    omega
  case f_push4 =>
    first
      | exact h.push4
      | (intro a1; intros; simp [Pt.none] at a1; done)
      | (intro a1 a2; intros; simp [Pt.none] at a2; done)
  case f_pop3 =>
    try dsimp only [Pt.none]
    omega
  case f_pop3t =>
    first
      | exact h.pop3t
      | (intro a1; intros; simp [Pt.none] at a1; done)
      | (intro a1 a2; intros; simp at a2; done)
  case f_pop4 =>
    try dsimp only [Pt.none]
    omega
  case f_pop4x =>
    first
      | exact h.pop4x
      | (intro a1; intros; simp [Pt.none] at a1; done)
      | (intro a1 a2; intros; simp [Pt.none] at a2; done)
  case f_pop5 =>
    try dsimp only [Pt.none]
    omega
  case f_th2 =>
    exact h.th2
  case f_th3 =>
    intro i h1 h2 h3 h4
    have g := h.th3 i h1 h2 h3 h4
    omega
  case f_th4 =>
    exact h.th4

theorem Inv.pop1 (h : Inv top bottom room L c ⟨2, 1, b, t, x, w⟩ q T N) : Inv top (bottom - 1) room L c ⟨2, 2, bottom - 1, t, x, w⟩ q T N := by
  have k0 := h.hL1
  have k1 := h.hL2
  have k2 := h.bound
  have k3 := h.eqb
  have k4 := h.push3
  have k5 := h.pop3
  have k6 := h.pop4
  have k7 := h.pop5
  try dsimp only at k0 k1 k2 k3 k4 k5 k6 k7
  refine ⟨?f_pos, ?f_hL1, ?f_hL2, ?f_bound, ?f_cont, ?f_inc, ?f_count, ?f_won, ?f_low, ?f_push, ?f_eqb, ?f_push3, ?f_push4, ?f_pop3, ?f_pop3t, ?f_pop4, ?f_pop4x, ?f_pop5, ?f_th2, ?f_th3, ?f_th4⟩
  case f_pos =>
    exact h.pos
  case f_hL1 =>
    try dsimp only
    omega
  case f_hL2 =>
    try dsimp only
    omega
  case f_bound =>
    try dsimp only
    omega
  case f_cont =>
    exact h.cont
  case f_inc =>
    exact h.inc
  case f_count =>
    have k := h.count
    first
      | exact k
      | (simp [Pt.none] at k ⊢; omega)
  case f_won =>
    first
      | exact h.won
      | (intro a1; intros; simp [Pt.none] at a1; done)
      | (intro a1 a2; intros; simp [Pt.none] at a2; done)
  case f_low =>
    first
      | exact h.low
      | (intro a1; intros; simp [Pt.none] at a1; done)
      | (intro a1 a2; simp at a2; done)
      | (intros; exact h.low rfl (by simp))
  case f_push =>
    first
      | exact h.push
      | (intro a1; intros; simp [Pt.none] at a1; done)
      | (intro a1 a2; intros; simp [Pt.none] at a2; done)
  case f_eqb =>
    try dsimp only
    omega
  case f_push3 =>
    try dsimp only
    omega
  case f_push4 =>
    first
      | exact h.push4
      | (intro a1; intros; simp [Pt.none] at a1; done)
      | (intro a1 a2; intros; simp [Pt.none] at a2; done)
  case f_pop3 =>
    try dsimp only
    omega
  case f_pop3t =>
    first
      | exact h.pop3t
      | (intro a1; intros; simp [Pt.none] at a1; done)
      | (intro a1 a2; intros; simp at a2; done)
  case f_pop4 =>
    try dsimp only
    omega
  case f_pop4x =>
    first
      | exact h.pop4x
      | (intro a1; intros; simp [Pt.none] at a1; done)
      | (intro a1 a2; intros; simp [Pt.none] at a2; done)
  case f_pop5 =>
    try dsimp only
    omega
  case f_th2 =>
    exact h.th2
  case f_th3 =>
    exact h.th3
  case f_th4 =>
    exact h.th4

theorem Inv.pop2 (h : Inv top bottom room L c ⟨2, 2, b, t, x, w⟩ q T N) (hr : ¬ b < top) : Inv top bottom room L c ⟨2, 3, b, top, x, w⟩ q T N := by
  have k0 := h.hL1
  have k1 := h.hL2
  have k2 := h.bound
  have k3 := h.eqb
  have k4 := h.push3
  have k5 := h.pop3
  have k6 := h.pop4
  have k7 := h.pop5
  try dsimp only at k0 k1 k2 k3 k4 k5 k6 k7
  refine ⟨?f_pos, ?f_hL1, ?f_hL2, ?f_bound, ?f_cont, ?f_inc, ?f_count, ?f_won, ?f_low, ?f_push, ?f_eqb, ?f_push3, ?f_push4, ?f_pop3, ?f_pop3t, ?f_pop4, ?f_pop4x, ?f_pop5, ?f_th2, ?f_th3, ?f_th4⟩
  case f_pos =>
    exact h.pos
  case f_hL1 =>
    try dsimp only
    omega
  case f_hL2 =>
    try dsimp only
    omega
  case f_bound =>
    try dsimp only
    omega
  case f_cont =>
    exact h.cont
  case f_inc =>
    exact h.inc
  case f_count =>
    have k := h.count
    first
      | exact k
      | (simp [Pt.none] at k ⊢; omega)
  case f_won =>
    first
      | exact h.won
      | (intro a1; intros; simp [Pt.none] at a1; done)
      | (intro a1 a2; intros; simp [Pt.none] at a2; done)
  case f_low =>
    first
      | exact h.low
      | (intro a1; intros; simp [Pt.none] at a1; done)
      | (intro a1 a2; simp at a2; done)
      | (intros; exact h.low rfl (by simp))
  case f_push =>
    first
      | exact h.push
      | (intro a1; intros; simp [Pt.none] at a1; done)
      | (intro a1 a2; intros; simp [Pt.none] at a2; done)
  case f_eqb =>
    try dsimp only
    omega
  case f_push3 =>
    try dsimp only
    omega
  case f_push4 =>
    first
      | exact h.push4
      | (intro a1; intros; simp [Pt.none] at a1; done)
      | (intro a1 a2; intros; simp [Pt.none] at a2; done)
  case f_pop3 =>
    try dsimp only
    omega
  case f_pop3t =>
    intro _ _ h0 i h1 h2 h3
    have g := h.th2 i h1 h2 (by omega)
    dsimp only at h0 ⊢
    omega
  case f_pop4 =>
    try dsimp only
    omega
  case f_pop4x =>
    first
      | exact h.pop4x
      | (intro a1; intros; simp [Pt.none] at a1; done)
      | (intro a1 a2; intros; simp [Pt.none] at a2; done)
  case f_pop5 =>
    try dsimp only
    omega
  case f_th2 =>
    exact h.th2
  case f_th3 =>
    exact h.th3
  case f_th4 =>
    exact h.th4

theorem Inv.pop2e (h : Inv top bottom room L c ⟨2, 2, b, t, x, w⟩ q T N) (hr : b < top) : Inv top bottom room L c ⟨2, 5, b, top, x, w⟩ q T N := by
  have k0 := h.hL1
  have k1 := h.hL2
  have k2 := h.bound
  have k3 := h.eqb
  have k4 := h.push3
  have k5 := h.pop3
  have k6 := h.pop4
  have k7 := h.pop5
  try dsimp only at k0 k1 k2 k3 k4 k5 k6 k7
  have hw := h.low rfl (by simp)
  dsimp only at hw
  refine ⟨?f_pos, ?f_hL1, ?f_hL2, ?f_bound, ?f_cont, ?f_inc, ?f_count, ?f_won, ?f_low, ?f_push, ?f_eqb, ?f_push3, ?f_push4, ?f_pop3, ?f_pop3t, ?f_pop4, ?f_pop4x, ?f_pop5, ?f_th2, ?f_th3, ?f_th4⟩
  case f_pos =>
    exact h.pos
  case f_hL1 =>
    try dsimp only
    omega
  case f_hL2 =>
    try dsimp only
    omega
  case f_bound =>
    try dsimp only
    omega
  case f_cont =>
    exact h.cont
  case f_inc =>
    exact h.inc
  case f_count =>
    have k := h.count
    simp [hw] at k ⊢
    omega
  case f_won =>
    intro _ _ g
    exact absurd (hw.symm.trans g) (by simp)
  case f_low =>
    first
      | exact h.low
      | (intro a1; intros; simp [Pt.none] at a1; done)
      | (intro a1 a2; simp at a2; done)
      | (intros; exact h.low rfl (by simp))
  case f_push =>
    first
      | exact h.push
      | (intro a1; intros; simp [Pt.none] at a1; done)
      | (intro a1 a2; intros; simp [Pt.none] at a2; done)
  case f_eqb =>
    try dsimp only
    omega
  case f_push3 =>
    try dsimp only
    omega
  case f_push4 =>
    first
      | exact h.push4
      | (intro a1; intros; simp [Pt.none] at a1; done)
      | (intro a1 a2; intros; simp [Pt.none] at a2; done)
  case f_pop3 =>
    try dsimp only
    omega
  case f_pop3t =>
    first
      | exact h.pop3t
      | (intro a1; intros; simp [Pt.none] at a1; done)
      | (intro a1 a2; intros; simp at a2; done)
  case f_pop4 =>
    try dsimp only
    omega
  case f_pop4x =>
    first
      | exact h.pop4x
      | (intro a1; intros; simp [Pt.none] at a1; done)
      | (intro a1 a2; intros; simp [Pt.none] at a2; done)
  case f_pop5 =>
    try dsimp only
    omega
  case f_th2 =>
    exact h.th2
  case f_th3 =>
    exact h.th3
  case f_th4 =>
    exact h.th4

theorem Inv.pop3w (h : Inv top bottom room L c ⟨2, 3, b, t, x, w⟩ q T N) (hr : t < b) : Inv top bottom room b c Pt.none q (setv T (c b).toNat 1) N := by
  have k0 := h.hL1
  have k1 := h.hL2
  have k2 := h.bound
  have k3 := h.eqb
  have k4 := h.push3
  have k5 := h.pop3
  have k6 := h.pop4
  have k7 := h.pop5
  try dsimp only at k0 k1 k2 k3 k4 k5 k6 k7
  obtain ⟨e1, e2, e3⟩ := h.cont b (by omega) (by omega)
  refine ⟨?f_pos, ?f_hL1, ?f_hL2, ?f_bound, ?f_cont, ?f_inc, ?f_count, ?f_won, ?f_low, ?f_push, ?f_eqb, ?f_push3, ?f_push4, ?f_pop3, ?f_pop3t, ?f_pop4, ?f_pop4x, ?f_pop5, ?f_th2, ?f_th3, ?f_th4⟩
  case f_pos =>
    exact h.pos
  case f_hL1 =>
    try dsimp only [Pt.none]
    omega
  case f_hL2 =>
    try dsimp only [Pt.none]
    omega
  case f_bound =>
    try dsimp only [Pt.none]
    omega
  case f_cont =>
    intro n h1 h2
    have g0 := h.inc n b h1 h2 (by omega)
    obtain ⟨g1, g2, g3⟩ := h.cont n h1 (by omega)
    refine ⟨g1, g2, ?_⟩
    rw [setv_other _ _ (by omega)]
    exact g3
  case f_inc =>
    exact fun n m h1 h2 h3 => h.inc n m h1 h2 (by omega)
  case f_count =>
    have k := h.count
    rw [zer_set e3 (by omega) (by omega) (by omega), k]
    simp [Pt.none]
    omega
  case f_won =>
    first
      | exact h.won
      | (intro a1; intros; simp [Pt.none] at a1; done)
      | (intro a1 a2; intros; simp [Pt.none] at a2; done)
  case f_low =>
    first
      | exact h.low
      | (intro a1; intros; simp [Pt.none] at a1; done)
      | (intro a1 a2; simp at a2; done)
      | (intros; exact h.low rfl (by simp))
  case f_push =>
    first
      | exact h.push
      | (intro a1; intros; simp [Pt.none] at a1; done)
      | (intro a1 a2; intros; simp [Pt.none] at a2; done)
  case f_eqb =>
    try dsimp only [Pt.none]
    omega
  case f_push3 =>
    try dsimp only [Pt.none]
    omega
  case f_push4 =>
    first
      | exact h.push4
      | (intro a1; intros; simp [Pt.none] at a1; done)
      | (intro a1 a2; intros; simp [Pt.none] at a2; done)
  case f_pop3 =>
    try dsimp only [Pt.none]
    omega
  case f_pop3t =>
    first
      | exact h.pop3t
      | (intro a1; intros; simp [Pt.none] at a1; done)
      | (intro a1 a2; intros; simp at a2; done)
  case f_pop4 =>
    try dsimp only [Pt.none]
    omega
  case f_pop4x =>
    first
      | exact h.pop4x
      | (intro a1; intros; simp [Pt.none] at a1; done)
      | (intro a1 a2; intros; simp [Pt.none] at a2; done)
  case f_pop5 =>
    try dsimp only [Pt.none]
    omega
  case f_th2 =>
    exact h.th2
  case f_th3 =>
    intro i h1 h2 h3 _
    exact h.pop3t rfl rfl hr i h1 h2 h3
  case f_th4 =>
    exact h.th4

theorem Inv.pop3e (h : Inv top bottom room L c ⟨2, 3, b, t, x, w⟩ q T N) (hr : ¬ t < b) : Inv top bottom room L c ⟨2, 4, b, t, (c b), w⟩ q T N := by
  have k0 := h.hL1
  have k1 := h.hL2
  have k2 := h.bound
  have k3 := h.eqb
  have k4 := h.push3
  have k5 := h.pop3
  have k6 := h.pop4
  have k7 := h.pop5
  try dsimp only at k0 k1 k2 k3 k4 k5 k6 k7
  refine ⟨?f_pos, ?f_hL1, ?f_hL2, ?f_bound, ?f_cont, ?f_inc, ?f_count, ?f_won, ?f_low, ?f_push, ?f_eqb, ?f_push3, ?f_push4, ?f_pop3, ?f_pop3t, ?f_pop4, ?f_pop4x, ?f_pop5, ?f_th2, ?f_th3, ?f_th4⟩
  case f_pos =>
    exact h.pos
  case f_hL1 =>
    try dsimp only
    omega
  case f_hL2 =>
    try dsimp only
    omega
  case f_bound =>
    try dsimp only
    omega
  case f_cont =>
    exact h.cont
  case f_inc =>
    exact h.inc
  case f_count =>
    have k := h.count
    first
      | exact k
      | (simp [Pt.none] at k ⊢; omega)
  case f_won =>
    first
      | exact h.won
      | (intro a1; intros; simp [Pt.none] at a1; done)
      | (intro a1 a2; intros; simp [Pt.none] at a2; done)
  case f_low =>
    first
      | exact h.low
      | (intro a1; intros; simp [Pt.none] at a1; done)
      | (intro a1 a2; simp at a2; done)
      | (intros; exact h.low rfl (by simp))
  case f_push =>
    first
      | exact h.push
      | (intro a1; intros; simp [Pt.none] at a1; done)
      | (intro a1 a2; intros; simp [Pt.none] at a2; done)
  case f_eqb =>
    try dsimp only
    omega
  case f_push3 =>
    try dsimp only
    omega
  case f_push4 =>
    first
      | exact h.push4
      | (intro a1; intros; simp [Pt.none] at a1; done)
      | (intro a1 a2; intros; simp [Pt.none] at a2; done)
  case f_pop3 =>
    try dsimp only
    omega
  case f_pop3t =>
    first
      | exact h.pop3t
      | (intro a1; intros; simp [Pt.none] at a1; done)
      | (intro a1 a2; intros; simp at a2; done)
  case f_pop4 =>
    try dsimp only
    omega
  case f_pop4x =>
    intros
    rfl
  case f_pop5 =>
    try dsimp only
    omega
  case f_th2 =>
    exact h.th2
  case f_th3 =>
    exact h.th3
  case f_th4 =>
    exact h.th4

theorem Inv.pop4w (h : Inv top bottom room L c ⟨2, 4, b, t, x, w⟩ q T N) (hr : top = t) : Inv (top + 1) bottom room L c ⟨2, 5, b, t, x, true⟩ q T N := by
  have k0 := h.hL1
  have k1 := h.hL2
  have k2 := h.bound
  have k3 := h.eqb
  have k4 := h.push3
  have k5 := h.pop3
  have k6 := h.pop4
  have k7 := h.pop5
  try dsimp only at k0 k1 k2 k3 k4 k5 k6 k7
  have hx := h.pop4x rfl rfl hr
  dsimp only at hx
  obtain ⟨e1, e2, e3⟩ := h.cont b (by omega) (by omega)
  refine ⟨?f_pos, ?f_hL1, ?f_hL2, ?f_bound, ?f_cont, ?f_inc, ?f_count, ?f_won, ?f_low, ?f_push, ?f_eqb, ?f_push3, ?f_push4, ?f_pop3, ?f_pop3t, ?f_pop4, ?f_pop4x, ?f_pop5, ?f_th2, ?f_th3, ?f_th4⟩
  case f_pos =>
    exact h.pos
  case f_hL1 =>
    try dsimp only
    omega
  case f_hL2 =>
    try dsimp only
    omega
  case f_bound =>
    try dsimp only
    omega
  case f_cont =>
    intro n h1 h2
    omega
  case f_inc =>
    intro n m h1 h2 h3
    omega
  case f_count =>
    have k := h.count
    simp at k ⊢
    omega
  case f_won =>
    intro _ _ _
    rw [show (⟨2, 5, b, t, x, true⟩ : Pt).x = c b from hx]
    exact ⟨e1, e2, e3⟩
  case f_low =>
    first
      | exact h.low
      | (intro a1; intros; simp [Pt.none] at a1; done)
      | (intro a1 a2; simp at a2; done)
      | (intros; exact h.low rfl (by simp))
  case f_push =>
    first
      | exact h.push
      | (intro a1; intros; simp [Pt.none] at a1; done)
      | (intro a1 a2; intros; simp [Pt.none] at a2; done)
  case f_eqb =>
    try dsimp only
    omega
  case f_push3 =>
    try dsimp only
    omega
  case f_push4 =>
    first
      | exact h.push4
      | (intro a1; intros; simp [Pt.none] at a1; done)
      | (intro a1 a2; intros; simp [Pt.none] at a2; done)
  case f_pop3 =>
    try dsimp only
    omega
  case f_pop3t =>
    first
      | exact h.pop3t
      | (intro a1; intros; simp [Pt.none] at a1; done)
      | (intro a1 a2; intros; simp at a2; done)
  case f_pop4 =>
    try dsimp only
    omega
  case f_pop4x =>
    first
      | exact h.pop4x
      | (intro a1; intros; simp [Pt.none] at a1; done)
      | (intro a1 a2; intros; simp [Pt.none] at a2; done)
  case f_pop5 =>
    try dsimp only
    omega
  case f_th2 =>
    intro i h1 h2 h3
    have g := h.th2 i h1 h2 h3
    omega
  case f_th3 =>
    intro i h1 h2 h3 h4
    have g := h.th2 i h1 h2 (by omega)
    omega
  case f_th4 =>
    intro i h1 h2 h3 h4
    have g := h.th2 i h1 h2 (by omega)
    omega

theorem Inv.pop4n (h : Inv top bottom room L c ⟨2, 4, b, t, x, w⟩ q T N) (hr : ¬ top = t) : Inv top bottom room L c ⟨2, 5, b, t, x, false⟩ q T N := by
  have k0 := h.hL1
  have k1 := h.hL2
  have k2 := h.bound
  have k3 := h.eqb
  have k4 := h.push3
  have k5 := h.pop3
  have k6 := h.pop4
  have k7 := h.pop5
  try dsimp only at k0 k1 k2 k3 k4 k5 k6 k7
  refine ⟨?f_pos, ?f_hL1, ?f_hL2, ?f_bound, ?f_cont, ?f_inc, ?f_count, ?f_won, ?f_low, ?f_push, ?f_eqb, ?f_push3, ?f_push4, ?f_pop3, ?f_pop3t, ?f_pop4, ?f_pop4x, ?f_pop5, ?f_th2, ?f_th3, ?f_th4⟩
  case f_pos =>
    exact h.pos
  case f_hL1 =>
    try dsimp only
    omega
  case f_hL2 =>
    try dsimp only
    omega
  case f_bound =>
    try dsimp only
    omega
  case f_cont =>
    exact h.cont
  case f_inc =>
    exact h.inc
  case f_count =>
    have k := h.count
    first
      | exact k
      | (simp [Pt.none] at k ⊢; omega)
  case f_won =>
    intro _ _ g
    exact absurd g (by simp)
  case f_low =>
    first
      | exact h.low
      | (intro a1; intros; simp [Pt.none] at a1; done)
      | (intro a1 a2; simp at a2; done)
      | (intros; exact h.low rfl (by simp))
  case f_push =>
    first
      | exact h.push
      | (intro a1; intros; simp [Pt.none] at a1; done)
      | (intro a1 a2; intros; simp [Pt.none] at a2; done)
  case f_eqb =>
    try dsimp only
    omega
  case f_push3 =>
    try dsimp only
    omega
  case f_push4 =>
    first
      | exact h.push4
      | (intro a1; intros; simp [Pt.none] at a1; done)
      | (intro a1 a2; intros; simp [Pt.none] at a2; done)
  case f_pop3 =>
    try dsimp only
    omega
  case f_pop3t =>
    first
      | exact h.pop3t
      | (intro a1; intros; simp [Pt.none] at a1; done)
      | (intro a1 a2; intros; simp at a2; done)
  case f_pop4 =>
    try dsimp only
    omega
  case f_pop4x =>
    first
      | exact h.pop4x
      | (intro a1; intros; simp [Pt.none] at a1; done)
      | (intro a1 a2; intros; simp [Pt.none] at a2; done)
  case f_pop5 =>
    try dsimp only
    omega
  case f_th2 =>
    exact h.th2
  case f_th3 =>
    exact h.th3
  case f_th4 =>
    exact h.th4

theorem Inv.pop5w (h : Inv top bottom room L c ⟨2, 5, b, t, x, true⟩ q T N) : Inv top (b + 1) room L c Pt.none q (setv T x.toNat 1) N := by
  have k0 := h.hL1
  have k1 := h.hL2
  have k2 := h.bound
  have k3 := h.eqb
  have k4 := h.push3
  have k5 := h.pop3
  have k6 := h.pop4
  have k7 := h.pop5
  try dsimp only at k0 k1 k2 k3 k4 k5 k6 k7
  obtain ⟨e1, e2, e3⟩ := h.won rfl rfl rfl
  dsimp only at e1 e2 e3
  refine ⟨?f_pos, ?f_hL1, ?f_hL2, ?f_bound, ?f_cont, ?f_inc, ?f_count, ?f_won, ?f_low, ?f_push, ?f_eqb, ?f_push3, ?f_push4, ?f_pop3, ?f_pop3t, ?f_pop4, ?f_pop4x, ?f_pop5, ?f_th2, ?f_th3, ?f_th4⟩
  case f_pos =>
    exact h.pos
  case f_hL1 =>
    try dsimp only [Pt.none]
    omega
  case f_hL2 =>
    try dsimp only [Pt.none]
    omega
  case f_bound =>
    try dsimp only [Pt.none]
    omega
  case f_cont =>
    intro n h1 h2
    omega
  case f_inc =>
    intro n m h1 h2 h3
    omega
  case f_count =>
    have k := h.count
    rw [zer_set e3 (by omega) (by omega) (by omega), k]
    simp [Pt.none]
  case f_won =>
    first
      | exact h.won
      | (intro a1; intros; simp [Pt.none] at a1; done)
      | (intro a1 a2; intros; simp [Pt.none] at a2; done)
  case f_low =>
    first
      | exact h.low
      | (intro a1; intros; simp [Pt.none] at a1; done)
      | (intro a1 a2; simp at a2; done)
      | (intros; exact h.low rfl (by simp))
  case f_push =>
    first
      | exact h.push
      | (intro a1; intros; simp [Pt.none] at a1; done)
      | (intro a1 a2; intros; simp [Pt.none] at a2; done)
  case f_eqb =>
    try dsimp only [Pt.none]
    omega
  case f_push3 =>
    try dsimp only [Pt.none]
    omega
  case f_push4 =>
    first
      | exact h.push4
      | (intro a1; intros; simp [Pt.none] at a1; done)
      | (intro a1 a2; intros; simp [Pt.none] at a2; done)
  case f_pop3 =>
    try dsimp only [Pt.none]
    omega
  case f_pop3t =>
    first
      | exact h.pop3t
      | (intro a1; intros; simp [Pt.none] at a1; done)
      | (intro a1 a2; intros; simp at a2; done)
  case f_pop4 =>
    try dsimp only [Pt.none]
    omega
  case f_pop4x =>
    first
      | exact h.pop4x
      | (intro a1; intros; simp [Pt.none] at a1; done)
      | (intro a1 a2; intros; simp [Pt.none] at a2; done)
  case f_pop5 =>
    try dsimp only [Pt.none]
    omega
  case f_th2 =>
    exact h.th2
  case f_th3 =>
    exact h.th3
  case f_th4 =>
    exact h.th4

theorem Inv.pop5n (h : Inv top bottom room L c ⟨2, 5, b, t, x, false⟩ q T N) : Inv top (b + 1) room L c Pt.none q T N := by
  have k0 := h.hL1
  have k1 := h.hL2
  have k2 := h.bound
  have k3 := h.eqb
  have k4 := h.push3
  have k5 := h.pop3
  have k6 := h.pop4
  have k7 := h.pop5
  try dsimp only at k0 k1 k2 k3 k4 k5 k6 k7
  refine ⟨?f_pos, ?f_hL1, ?f_hL2, ?f_bound, ?f_cont, ?f_inc, ?f_count, ?f_won, ?f_low, ?f_push, ?f_eqb, ?f_push3, ?f_push4, ?f_pop3, ?f_pop3t, ?f_pop4, ?f_pop4x, ?f_pop5, ?f_th2, ?f_th3, ?f_th4⟩
  case f_pos =>
    exact h.pos
  case f_hL1 =>
    try dsimp only [Pt.none]
    omega
  case f_hL2 =>
    try dsimp only [Pt.none]
    omega
  case f_bound =>
    try dsimp only [Pt.none]
    omega
  case f_cont =>
    exact h.cont
  case f_inc =>
    exact h.inc
  case f_count =>
    have k := h.count
    first
      | exact k
      | (simp [Pt.none] at k ⊢; omega)
  case f_won =>
    first
      | exact h.won
      | (intro a1; intros; simp [Pt.none] at a1; done)
      | (intro a1 a2; intros; simp [Pt.none] at a2; done)
  case f_low =>
    first
      | exact h.low
      | (intro a1; intros; simp [Pt.none] at a1; done)
      | (intro a1 a2; simp at a2; done)
      | (intros; exact h.low rfl (by simp))
  case f_push =>
    first
      | exact h.push
      | (intro a1; intros; simp [Pt.none] at a1; done)
      | (intro a1 a2; intros; simp [Pt.none] at a2; done)
  case f_eqb =>
    try dsimp only [Pt.none]
    omega
  case f_push3 =>
    try dsimp only [Pt.none]
    omega
  case f_push4 =>
    first
      | exact h.push4
      | (intro a1; intros; simp [Pt.none] at a1; done)
      | (intro a1 a2; intros; simp [Pt.none] at a2; done)
  case f_pop3 =>
    try dsimp only [Pt.none]
    omega
  case f_pop3t =>
    first
      | exact h.pop3t
      | (intro a1; intros; simp [Pt.none] at a1; done)
      | (intro a1 a2; intros; simp at a2; done)
  case f_pop4 =>
    try dsimp only [Pt.none]
    omega
  case f_pop4x =>
    first
      | exact h.pop4x
      | (intro a1; intros; simp [Pt.none] at a1; done)
      | (intro a1 a2; intros; simp [Pt.none] at a2; done)
  case f_pop5 =>
    try dsimp only [Pt.none]
    omega
  case f_th2 =>
    exact h.th2
  case f_th3 =>
    exact h.th3
  case f_th4 =>
    exact h.th4

theorem Inv.th1 (h : Inv top bottom room L c p q T N) {i : Nat} (hi : i ≠ 0) (hq : q i = ⟨3, 1, b, t, x, w⟩) : Inv top bottom room L c p (fun j => if j = i then ⟨3, 2, b, top, x, w⟩ else q j) T N := by
  have k0 := h.hL1
  have k1 := h.hL2
  have k2 := h.bound
  have k3 := h.eqb
  have k4 := h.push3
  have k5 := h.pop3
  have k6 := h.pop4
  have k7 := h.pop5
  try dsimp only at k0 k1 k2 k3 k4 k5 k6 k7
  refine ⟨?f_pos, ?f_hL1, ?f_hL2, ?f_bound, ?f_cont, ?f_inc, ?f_count, ?f_won, ?f_low, ?f_push, ?f_eqb, ?f_push3, ?f_push4, ?f_pop3, ?f_pop3t, ?f_pop4, ?f_pop4x, ?f_pop5, ?f_th2, ?f_th3, ?f_th4⟩
  case f_pos =>
    exact h.pos
  case f_hL1 =>
    try dsimp only
    omega
  case f_hL2 =>
    try dsimp only
    omega
  case f_bound =>
    try dsimp only
    omega
  case f_cont =>
    exact h.cont
  case f_inc =>
    exact h.inc
  case f_count =>
    have k := h.count
    first
      | exact k
      | (simp [Pt.none] at k ⊢; omega)
  case f_won =>
    first
      | exact h.won
      | (intro a1; intros; simp [Pt.none] at a1; done)
      | (intro a1 a2; intros; simp [Pt.none] at a2; done)
  case f_low =>
    first
      | exact h.low
      | (intro a1; intros; simp [Pt.none] at a1; done)
      | (intro a1 a2; simp at a2; done)
      | (intros; exact h.low rfl (by simp))
  case f_push =>
    first
      | exact h.push
      | (intro a1; intros; simp [Pt.none] at a1; done)
      | (intro a1 a2; intros; simp [Pt.none] at a2; done)
  case f_eqb =>
    try dsimp only
    omega
  case f_push3 =>
    try dsimp only
    omega
  case f_push4 =>
    first
      | exact h.push4
      | (intro a1; intros; simp [Pt.none] at a1; done)
      | (intro a1 a2; intros; simp [Pt.none] at a2; done)
  case f_pop3 =>
    try dsimp only
    omega
  case f_pop3t =>
    intro a1 a2 a3 j h1 h2 h3
    by_cases e : j = i
    · simp only [e, if_true] at h2 h3 ⊢
      omega
    · simp only [e, if_false] at h2 h3 ⊢
      exact h.pop3t a1 a2 a3 j h1 h2 h3
  case f_pop4 =>
    try dsimp only
    omega
  case f_pop4x =>
    first
      | exact h.pop4x
      | (intro a1; intros; simp [Pt.none] at a1; done)
      | (intro a1 a2; intros; simp [Pt.none] at a2; done)
  case f_pop5 =>
    try dsimp only
    omega
  case f_th2 =>
    intro j h1 h2 h3
    by_cases e : j = i
    · simp only [e, if_true] at h2 h3 ⊢
      omega
    · simp only [e, if_false] at h2 h3 ⊢
      exact h.th2 j h1 h2 h3
  case f_th3 =>
    intro j h1 h2 h3 h4
    by_cases e : j = i
    · simp only [e, if_true] at h2 h3 h4 ⊢
      omega
    · simp only [e, if_false] at h2 h3 h4 ⊢
      exact h.th3 j h1 h2 h3 h4
  case f_th4 =>
    intro j h1 h2 h3 h4
    by_cases e : j = i
    · simp only [e, if_true] at h2 h3 h4 ⊢
      omega
    · simp only [e, if_false] at h2 h3 h4 ⊢
      exact h.th4 j h1 h2 h3 h4

theorem Inv.th2w (h : Inv top bottom room L c p q T N) {i : Nat} (hi : i ≠ 0) (hq : q i = ⟨3, 2, b, t, x, w⟩) (hr : ¬ bottom ≤ t) : Inv top bottom room L c p (fun j => if j = i then ⟨3, 3, bottom, t, x, w⟩ else q j) T N := by
  have k0 := h.hL1
  have k1 := h.hL2
  have k2 := h.bound
  have k3 := h.eqb
  have k4 := h.push3
  have k5 := h.pop3
  have k6 := h.pop4
  have k7 := h.pop5
  try dsimp only at k0 k1 k2 k3 k4 k5 k6 k7
  have m2 := h.th2 i hi (by rw [hq]) (by rw [hq]; simp)
  rw [hq] at m2
  dsimp only at m2
  refine ⟨?f_pos, ?f_hL1, ?f_hL2, ?f_bound, ?f_cont, ?f_inc, ?f_count, ?f_won, ?f_low, ?f_push, ?f_eqb, ?f_push3, ?f_push4, ?f_pop3, ?f_pop3t, ?f_pop4, ?f_pop4x, ?f_pop5, ?f_th2, ?f_th3, ?f_th4⟩
  case f_pos =>
    exact h.pos
  case f_hL1 =>
    try dsimp only
    omega
  case f_hL2 =>
    try dsimp only
    omega
  case f_bound =>
    try dsimp only
    omega
  case f_cont =>
    exact h.cont
  case f_inc =>
    exact h.inc
  case f_count =>
    have k := h.count
    first
      | exact k
      | (simp [Pt.none] at k ⊢; omega)
  case f_won =>
    first
      | exact h.won
      | (intro a1; intros; simp [Pt.none] at a1; done)
      | (intro a1 a2; intros; simp [Pt.none] at a2; done)
  case f_low =>
    first
      | exact h.low
      | (intro a1; intros; simp [Pt.none] at a1; done)
      | (intro a1 a2; simp at a2; done)
      | (intros; exact h.low rfl (by simp))
  case f_push =>
    first
      | exact h.push
      | (intro a1; intros; simp [Pt.none] at a1; done)
      | (intro a1 a2; intros; simp [Pt.none] at a2; done)
  case f_eqb =>
    try dsimp only
    omega
  case f_push3 =>
    try dsimp only
    omega
  case f_push4 =>
    first
      | exact h.push4
      | (intro a1; intros; simp [Pt.none] at a1; done)
      | (intro a1 a2; intros; simp [Pt.none] at a2; done)
  case f_pop3 =>
    try dsimp only
    omega
  case f_pop3t =>
    intro a1 a2 a3 j h1 h2 h3
    by_cases e : j = i
    · simp only [e, if_true] at h2 h3 ⊢
      have g := h.eqb (.inr a1) (by omega)
      omega
    · simp only [e, if_false] at h2 h3 ⊢
      exact h.pop3t a1 a2 a3 j h1 h2 h3
  case f_pop4 =>
    try dsimp only
    omega
  case f_pop4x =>
    first
      | exact h.pop4x
      | (intro a1; intros; simp [Pt.none] at a1; done)
      | (intro a1 a2; intros; simp [Pt.none] at a2; done)
  case f_pop5 =>
    try dsimp only
    omega
  case f_th2 =>
    intro j h1 h2 h3
    by_cases e : j = i
    · simp only [e, if_true] at h2 h3 ⊢
      have g := m2
      omega
    · simp only [e, if_false] at h2 h3 ⊢
      exact h.th2 j h1 h2 h3
  case f_th3 =>
    intro j h1 h2 h3 h4
    by_cases e : j = i
    · simp only [e, if_true] at h2 h3 h4 ⊢
      omega
    · simp only [e, if_false] at h2 h3 h4 ⊢
      exact h.th3 j h1 h2 h3 h4
  case f_th4 =>
    intro j h1 h2 h3 h4
    by_cases e : j = i
    · simp only [e, if_true] at h2 h3 h4 ⊢
      omega
    · simp only [e, if_false] at h2 h3 h4 ⊢
      exact h.th4 j h1 h2 h3 h4

theorem Inv.th3w (h : Inv top bottom room L c p q T N) {i : Nat} (hi : i ≠ 0) (hq : q i = ⟨3, 3, b, t, x, w⟩) : Inv top bottom room L c p (fun j => if j = i then ⟨3, 4, b, t, (c t), w⟩ else q j) T N := by
  have k0 := h.hL1
  have k1 := h.hL2
  have k2 := h.bound
  have k3 := h.eqb
  have k4 := h.push3
  have k5 := h.pop3
  have k6 := h.pop4
  have k7 := h.pop5
  try dsimp only at k0 k1 k2 k3 k4 k5 k6 k7
  have m2 := h.th2 i hi (by rw [hq]) (by rw [hq]; simp)
  rw [hq] at m2
  dsimp only at m2
  have m3 := h.th3 i hi (by rw [hq]) (by rw [hq]; simp)
  rw [hq] at m3
  dsimp only at m3
  refine ⟨?f_pos, ?f_hL1, ?f_hL2, ?f_bound, ?f_cont, ?f_inc, ?f_count, ?f_won, ?f_low, ?f_push, ?f_eqb, ?f_push3, ?f_push4, ?f_pop3, ?f_pop3t, ?f_pop4, ?f_pop4x, ?f_pop5, ?f_th2, ?f_th3, ?f_th4⟩
  case f_pos =>
    exact h.pos
  case f_hL1 =>
    try dsimp only
    omega
  case f_hL2 =>
    try dsimp only
    omega
  case f_bound =>
    try dsimp only
    omega
  case f_cont =>
    exact h.cont
  case f_inc =>
    exact h.inc
  case f_count =>
    have k := h.count
    first
      | exact k
      | (simp [Pt.none] at k ⊢; omega)
  case f_won =>
    first
      | exact h.won
      | (intro a1; intros; simp [Pt.none] at a1; done)
      | (intro a1 a2; intros; simp [Pt.none] at a2; done)
  case f_low =>
    first
      | exact h.low
      | (intro a1; intros; simp [Pt.none] at a1; done)
      | (intro a1 a2; simp at a2; done)
      | (intros; exact h.low rfl (by simp))
  case f_push =>
    first
      | exact h.push
      | (intro a1; intros; simp [Pt.none] at a1; done)
      | (intro a1 a2; intros; simp [Pt.none] at a2; done)
  case f_eqb =>
    try dsimp only
    omega
  case f_push3 =>
    try dsimp only
    omega
  case f_push4 =>
    first
      | exact h.push4
      | (intro a1; intros; simp [Pt.none] at a1; done)
      | (intro a1 a2; intros; simp [Pt.none] at a2; done)
  case f_pop3 =>
    try dsimp only
    omega
  case f_pop3t =>
    intro a1 a2 a3 j h1 h2 h3
    by_cases e : j = i
    · simp only [e, if_true] at h2 h3 ⊢
      have g := h.pop3t a1 a2 a3 i hi (by rw [hq]) (by rw [hq]; simp)
      rw [hq] at g
      exact g
    · simp only [e, if_false] at h2 h3 ⊢
      exact h.pop3t a1 a2 a3 j h1 h2 h3
  case f_pop4 =>
    try dsimp only
    omega
  case f_pop4x =>
    first
      | exact h.pop4x
      | (intro a1; intros; simp [Pt.none] at a1; done)
      | (intro a1 a2; intros; simp [Pt.none] at a2; done)
  case f_pop5 =>
    try dsimp only
    omega
  case f_th2 =>
    intro j h1 h2 h3
    by_cases e : j = i
    · simp only [e, if_true] at h2 h3 ⊢
      have g := m2
      omega
    · simp only [e, if_false] at h2 h3 ⊢
      exact h.th2 j h1 h2 h3
  case f_th3 =>
    intro j h1 h2 h3 h4
    by_cases e : j = i
    · simp only [e, if_true] at h2 h3 h4 ⊢
      exact m3 h4
    · simp only [e, if_false] at h2 h3 h4 ⊢
      exact h.th3 j h1 h2 h3 h4
  case f_th4 =>
    intro j h1 h2 h3 h4
    by_cases e : j = i
    · simp only [e, if_true] at h2 h3 h4 ⊢
      try rfl
    · simp only [e, if_false] at h2 h3 h4 ⊢
      exact h.th4 j h1 h2 h3 h4

theorem Inv.gone {cc s : Int} (h : Inv top bottom room L c p q T N) {i : Nat} (hi : i ≠ 0) (hq : q i = ⟨cc, s, b, t, x, w⟩) : Inv top bottom room L c p (fun j => if j = i then Pt.none else q j) T N := by
  have k0 := h.hL1
  have k1 := h.hL2
  have k2 := h.bound
  have k3 := h.eqb
  have k4 := h.push3
  have k5 := h.pop3
  have k6 := h.pop4
  have k7 := h.pop5
  try dsimp only at k0 k1 k2 k3 k4 k5 k6 k7
  refine ⟨?f_pos, ?f_hL1, ?f_hL2, ?f_bound, ?f_cont, ?f_inc, ?f_count, ?f_won, ?f_low, ?f_push, ?f_eqb, ?f_push3, ?f_push4, ?f_pop3, ?f_pop3t, ?f_pop4, ?f_pop4x, ?f_pop5, ?f_th2, ?f_th3, ?f_th4⟩
  case f_pos =>
    exact h.pos
  case f_hL1 =>
    try dsimp only
    omega
  case f_hL2 =>
    try dsimp only
    omega
  case f_bound =>
    try dsimp only
    omega
  case f_cont =>
    exact h.cont
  case f_inc =>
    exact h.inc
  case f_count =>
    have k := h.count
    first
      | exact k
      | (simp [Pt.none] at k ⊢; omega)
  case f_won =>
    first
      | exact h.won
      | (intro a1; intros; simp [Pt.none] at a1; done)
      | (intro a1 a2; intros; simp [Pt.none] at a2; done)
  case f_low =>
    first
      | exact h.low
      | (intro a1; intros; simp [Pt.none] at a1; done)
      | (intro a1 a2; simp at a2; done)
      | (intros; exact h.low rfl (by simp))
  case f_push =>
    first
      | exact h.push
      | (intro a1; intros; simp [Pt.none] at a1; done)
      | (intro a1 a2; intros; simp [Pt.none] at a2; done)
  case f_eqb =>
    try dsimp only
    omega
  case f_push3 =>
    try dsimp only
    omega
  case f_push4 =>
    first
      | exact h.push4
      | (intro a1; intros; simp [Pt.none] at a1; done)
      | (intro a1 a2; intros; simp [Pt.none] at a2; done)
  case f_pop3 =>
    try dsimp only
    omega
  case f_pop3t =>
    intro a1 a2 a3 j h1 h2 h3
    by_cases e : j = i
    · simp only [e, if_true] at h2 h3 ⊢
      simp [Pt.none] at h2
    · simp only [e, if_false] at h2 h3 ⊢
      exact h.pop3t a1 a2 a3 j h1 h2 h3
  case f_pop4 =>
    try dsimp only
    omega
  case f_pop4x =>
    first
      | exact h.pop4x
      | (intro a1; intros; simp [Pt.none] at a1; done)
      | (intro a1 a2; intros; simp [Pt.none] at a2; done)
  case f_pop5 =>
    try dsimp only
    omega
  case f_th2 =>
    intro j h1 h2 h3
    by_cases e : j = i
    · simp only [e, if_true] at h2 h3 ⊢
      simp [Pt.none] at h2
    · simp only [e, if_false] at h2 h3 ⊢
      exact h.th2 j h1 h2 h3
  case f_th3 =>
    intro j h1 h2 h3 h4
    by_cases e : j = i
    · simp only [e, if_true] at h2 h3 h4 ⊢
      simp [Pt.none] at h2
    · simp only [e, if_false] at h2 h3 h4 ⊢
      exact h.th3 j h1 h2 h3 h4
  case f_th4 =>
    intro j h1 h2 h3 h4
    by_cases e : j = i
    · simp only [e, if_true] at h2 h3 h4 ⊢
      simp [Pt.none] at h2
    · simp only [e, if_false] at h2 h3 h4 ⊢
      exact h.th4 j h1 h2 h3 h4

theorem Inv.th4w (h : Inv top bottom room L c p q T N) {i : Nat} (hi : i ≠ 0) (hq : q i = ⟨3, 4, b, t, x, w⟩) (hr : top = t) : Inv (top + 1) bottom room L c p (fun j => if j = i then Pt.none else q j) (setv T x.toNat 1) N := by
  have k0 := h.hL1
  have k1 := h.hL2
  have k2 := h.bound
  have k3 := h.eqb
  have k4 := h.push3
  have k5 := h.pop3
  have k6 := h.pop4
  have k7 := h.pop5
  try dsimp only at k0 k1 k2 k3 k4 k5 k6 k7
  have m2 := h.th2 i hi (by rw [hq]) (by rw [hq]; simp)
  rw [hq] at m2
  dsimp only at m2
  have m3 := h.th3 i hi (by rw [hq]) (by rw [hq]; simp)
  rw [hq] at m3
  dsimp only at m3
  have m4 := h.th4 i hi (by rw [hq]) (by rw [hq])
  rw [hq] at m4
  dsimp only at m4
  have m5 := m3 hr
  have m6 := m4 hr
  obtain ⟨e1, e2, e3⟩ := h.cont t (by omega) m5
  rw [← m6] at e1 e2 e3
  have m7 : p.call = 2 → p.step = 3 → p.t < p.b → t < p.b := fun a1 a2 a3 => by have g := h.pop3t a1 a2 a3 i hi (by rw [hq]) (by rw [hq]; simp); rw [hq] at g; exact g
  refine ⟨?f_pos, ?f_hL1, ?f_hL2, ?f_bound, ?f_cont, ?f_inc, ?f_count, ?f_won, ?f_low, ?f_push, ?f_eqb, ?f_push3, ?f_push4, ?f_pop3, ?f_pop3t, ?f_pop4, ?f_pop4x, ?f_pop5, ?f_th2, ?f_th3, ?f_th4⟩
  case f_pos =>
    exact h.pos
  case f_hL1 =>
    try dsimp only
    omega
  case f_hL2 =>
    try dsimp only
    omega
  case f_bound =>
    try dsimp only
    omega
  case f_cont =>
    intro n h1 h2
    have g0 := h.inc t n (by omega) (by omega) h2
    obtain ⟨g1, g2, g3⟩ := h.cont n (by omega) h2
    refine ⟨g1, g2, ?_⟩
    rw [setv_other _ _ (by omega)]
    exact g3
  case f_inc =>
    exact fun n m h1 h2 h3 => h.inc n m (by omega) h2 h3
  case f_count =>
    have k := h.count
    rw [zer_set e3 (by omega) (by omega) (by omega), k]
    omega
  case f_won =>
    intro a1 a2 a3
    have := h.pop5 a1 a2
    omega
  case f_low =>
    first
      | exact h.low
      | (intro a1; intros; simp [Pt.none] at a1; done)
      | (intro a1 a2; simp at a2; done)
      | (intros; exact h.low rfl (by simp))
  case f_push =>
    intro a1
    obtain ⟨g1, g2, g3, g4⟩ := h.push a1
    have g5 := g4 t (by omega) m5
    refine ⟨g1, g2, ?_, fun n h1 h2 => g4 n (by omega) h2⟩
    rw [setv_other _ _ (by omega)]
    exact g3
  case f_eqb =>
    try dsimp only
    omega
  case f_push3 =>
    try dsimp only
    omega
  case f_push4 =>
    first
      | exact h.push4
      | (intro a1; intros; simp [Pt.none] at a1; done)
      | (intro a1 a2; intros; simp [Pt.none] at a2; done)
  case f_pop3 =>
    intro a1 a2
    have g := h.pop3 a1 a2
    have g2 := m7 a1 a2
    omega
  case f_pop3t =>
    intro a1 a2 a3 j h1 h2 h3
    by_cases e : j = i
    · simp only [e, if_true] at h2 h3 ⊢
      simp [Pt.none] at h2
    · simp only [e, if_false] at h2 h3 ⊢
      exact h.pop3t a1 a2 a3 j h1 h2 h3
  case f_pop4 =>
    intro a1 a2
    have g := h.pop4 a1 a2
    omega
  case f_pop4x =>
    intro a1 a2 a3
    have g := h.pop4 a1 a2
    omega
  case f_pop5 =>
    intro a1 a2
    have g := h.pop5 a1 a2
    omega
  case f_th2 =>
    intro j h1 h2 h3
    by_cases e : j = i
    · simp only [e, if_true] at h2 h3 ⊢
      simp [Pt.none] at h2
    · simp only [e, if_false] at h2 h3 ⊢
      have g := h.th2 j h1 h2 h3
      omega
  case f_th3 =>
    intro j h1 h2 h3 h4
    by_cases e : j = i
    · simp only [e, if_true] at h2 h3 h4 ⊢
      simp [Pt.none] at h2
    · simp only [e, if_false] at h2 h3 h4 ⊢
      have g := h.th2 j h1 h2 (by omega)
      omega
  case f_th4 =>
    intro j h1 h2 h3 h4
    by_cases e : j = i
    · simp only [e, if_true] at h2 h3 h4 ⊢
      simp [Pt.none] at h2
    · simp only [e, if_false] at h2 h3 h4 ⊢
      have g := h.th2 j h1 h2 (by omega)
      omega

theorem Inv.bPush (h : Inv top bottom room L c p q T N) (h0 : p.call = 0) : Inv top bottom room L c ⟨1, 1, 0, 0, (N : Int), false⟩ q (setv T N 0) (N + 1) := by
  have k0 := h.hL1
  have k1 := h.hL2
  have k2 := h.bound
  have k3 := h.eqb
  have k4 := h.push3
  have k5 := h.pop3
  have k6 := h.pop4
  have k7 := h.pop5
  try dsimp only at k0 k1 k2 k3 k4 k5 k6 k7
  refine ⟨?f_pos, ?f_hL1, ?f_hL2, ?f_bound, ?f_cont, ?f_inc, ?f_count, ?f_won, ?f_low, ?f_push, ?f_eqb, ?f_push3, ?f_push4, ?f_pop3, ?f_pop3t, ?f_pop4, ?f_pop4x, ?f_pop5, ?f_th2, ?f_th3, ?f_th4⟩
  case f_pos =>
    omega
  case f_hL1 =>
    try dsimp only
    omega
  case f_hL2 =>
    try dsimp only
    omega
  case f_bound =>
    try dsimp only
    omega
  case f_cont =>
    intro n h1 h2
    obtain ⟨g1, g2, g3⟩ := h.cont n h1 h2
    refine ⟨g1, by omega, ?_⟩
    rw [setv_other _ _ (by omega)]
    exact g3
  case f_inc =>
    exact h.inc
  case f_count =>
    have k := h.count
    have kp := h.pos
    rw [if_neg (by omega), if_neg (by omega)] at k
    obtain ⟨M, rfl⟩ : ∃ M, N = M + 1 := ⟨N - 1, by omega⟩
    rw [Nat.add_sub_cancel] at k ⊢
    unfold zer
    rw [setv_same, zer_congr (T := T) (T' := setv T (M + 1) 0) (fun v _ hv => setv_other _ _ (by omega)), k]
    simp
  case f_won =>
    first
      | exact h.won
      | (intro a1; intros; simp [Pt.none] at a1; done)
      | (intro a1 a2; intros; simp [Pt.none] at a2; done)
  case f_low =>
    first
      | exact h.low
      | (intro a1; intros; simp [Pt.none] at a1; done)
      | (intro a1 a2; simp at a2; done)
      | (intros; exact h.low rfl (by simp))
  case f_push =>
    intro _
    have kp := h.pos
    refine ⟨by dsimp only; omega, by omega, ?_, fun n h1 h2 => ?_⟩
    · rw [Nat.add_sub_cancel, setv_same]
    · have g := (h.cont n h1 h2).2.1
      omega
  case f_eqb =>
    try dsimp only
    omega
  case f_push3 =>
    try dsimp only
    omega
  case f_push4 =>
    first
      | exact h.push4
      | (intro a1; intros; simp [Pt.none] at a1; done)
      | (intro a1 a2; intros; simp [Pt.none] at a2; done)
  case f_pop3 =>
    try dsimp only
    omega
  case f_pop3t =>
    first
      | exact h.pop3t
      | (intro a1; intros; simp [Pt.none] at a1; done)
      | (intro a1 a2; intros; simp at a2; done)
  case f_pop4 =>
    try dsimp only
    omega
  case f_pop4x =>
    first
      | exact h.pop4x
      | (intro a1; intros; simp [Pt.none] at a1; done)
      | (intro a1 a2; intros; simp [Pt.none] at a2; done)
  case f_pop5 =>
    try dsimp only
    omega
  case f_th2 =>
    exact h.th2
  case f_th3 =>
    exact h.th3
  case f_th4 =>
    exact h.th4

theorem Inv.bPop (h : Inv top bottom room L c p q T N) (h0 : p.call = 0) : Inv top bottom room L c ⟨2, 1, 0, 0, 0, false⟩ q T N := by
  have k0 := h.hL1
  have k1 := h.hL2
  have k2 := h.bound
  have k3 := h.eqb
  have k4 := h.push3
  have k5 := h.pop3
  have k6 := h.pop4
  have k7 := h.pop5
  try dsimp only at k0 k1 k2 k3 k4 k5 k6 k7
  refine ⟨?f_pos, ?f_hL1, ?f_hL2, ?f_bound, ?f_cont, ?f_inc, ?f_count, ?f_won, ?f_low, ?f_push, ?f_eqb, ?f_push3, ?f_push4, ?f_pop3, ?f_pop3t, ?f_pop4, ?f_pop4x, ?f_pop5, ?f_th2, ?f_th3, ?f_th4⟩
  case f_pos =>
    exact h.pos
  case f_hL1 =>
    try dsimp only
    omega
  case f_hL2 =>
    try dsimp only
    omega
  case f_bound =>
    try dsimp only
    omega
  case f_cont =>
    exact h.cont
  case f_inc =>
    exact h.inc
  case f_count =>
    have k := h.count
    rw [if_neg (by omega), if_neg (by omega)] at k
    simp
    omega
  case f_won =>
    first
      | exact h.won
      | (intro a1; intros; simp [Pt.none] at a1; done)
      | (intro a1 a2; intros; simp [Pt.none] at a2; done)
  case f_low =>
    intros
    rfl
  case f_push =>
    first
      | exact h.push
      | (intro a1; intros; simp [Pt.none] at a1; done)
      | (intro a1 a2; intros; simp [Pt.none] at a2; done)
  case f_eqb =>
    try dsimp only
    omega
  case f_push3 =>
    try dsimp only
    omega
  case f_push4 =>
    first
      | exact h.push4
      | (intro a1; intros; simp [Pt.none] at a1; done)
      | (intro a1 a2; intros; simp [Pt.none] at a2; done)
  case f_pop3 =>
    try dsimp only
    omega
  case f_pop3t =>
    first
      | exact h.pop3t
      | (intro a1; intros; simp [Pt.none] at a1; done)
      | (intro a1 a2; intros; simp at a2; done)
  case f_pop4 =>
    try dsimp only
    omega
  case f_pop4x =>
    first
      | exact h.pop4x
      | (intro a1; intros; simp [Pt.none] at a1; done)
      | (intro a1 a2; intros; simp [Pt.none] at a2; done)
  case f_pop5 =>
    try dsimp only
    omega
  case f_th2 =>
    exact h.th2
  case f_th3 =>
    exact h.th3
  case f_th4 =>
    exact h.th4

theorem Inv.bSteal {cc s : Int} (h : Inv top bottom room L c p q T N) {i : Nat} (hi : i ≠ 0) (hq : q i = ⟨cc, s, b, t, x, w⟩) : Inv top bottom room L c p (fun j => if j = i then ⟨3, 1, 0, 0, 0, false⟩ else q j) T N := by
  have k0 := h.hL1
  have k1 := h.hL2
  have k2 := h.bound
  have k3 := h.eqb
  have k4 := h.push3
  have k5 := h.pop3
  have k6 := h.pop4
  have k7 := h.pop5
  try dsimp only at k0 k1 k2 k3 k4 k5 k6 k7
  refine ⟨?f_pos, ?f_hL1, ?f_hL2, ?f_bound, ?f_cont, ?f_inc, ?f_count, ?f_won, ?f_low, ?f_push, ?f_eqb, ?f_push3, ?f_push4, ?f_pop3, ?f_pop3t, ?f_pop4, ?f_pop4x, ?f_pop5, ?f_th2, ?f_th3, ?f_th4⟩
  case f_pos =>
    exact h.pos
  case f_hL1 =>
    try dsimp only
    omega
  case f_hL2 =>
    try dsimp only
    omega
  case f_bound =>
    try dsimp only
    omega
  case f_cont =>
    exact h.cont
  case f_inc =>
    exact h.inc
  case f_count =>
    have k := h.count
    first
      | exact k
      | (simp [Pt.none] at k ⊢; omega)
  case f_won =>
    first
      | exact h.won
      | (intro a1; intros; simp [Pt.none] at a1; done)
      | (intro a1 a2; intros; simp [Pt.none] at a2; done)
  case f_low =>
    first
      | exact h.low
      | (intro a1; intros; simp [Pt.none] at a1; done)
      | (intro a1 a2; simp at a2; done)
      | (intros; exact h.low rfl (by simp))
  case f_push =>
    first
      | exact h.push
      | (intro a1; intros; simp [Pt.none] at a1; done)
      | (intro a1 a2; intros; simp [Pt.none] at a2; done)
  case f_eqb =>
    try dsimp only
    omega
  case f_push3 =>
    try dsimp only
    omega
  case f_push4 =>
    first
      | exact h.push4
      | (intro a1; intros; simp [Pt.none] at a1; done)
      | (intro a1 a2; intros; simp [Pt.none] at a2; done)
  case f_pop3 =>
    try dsimp only
    omega
  case f_pop3t =>
    intro a1 a2 a3 j h1 h2 h3
    by_cases e : j = i
    · simp only [e, if_true] at h2 h3 ⊢
      omega
    · simp only [e, if_false] at h2 h3 ⊢
      exact h.pop3t a1 a2 a3 j h1 h2 h3
  case f_pop4 =>
    try dsimp only
    omega
  case f_pop4x =>
    first
      | exact h.pop4x
      | (intro a1; intros; simp [Pt.none] at a1; done)
      | (intro a1 a2; intros; simp [Pt.none] at a2; done)
  case f_pop5 =>
    try dsimp only
    omega
  case f_th2 =>
    intro j h1 h2 h3
    by_cases e : j = i
    · simp only [e, if_true] at h2 h3 ⊢
      omega
    · simp only [e, if_false] at h2 h3 ⊢
      exact h.th2 j h1 h2 h3
  case f_th3 =>
    intro j h1 h2 h3 h4
    by_cases e : j = i
    · simp only [e, if_true] at h2 h3 h4 ⊢
      omega
    · simp only [e, if_false] at h2 h3 h4 ⊢
      exact h.th3 j h1 h2 h3 h4
  case f_th4 =>
    intro j h1 h2 h3 h4
    by_cases e : j = i
    · simp only [e, if_true] at h2 h3 h4 ⊢
      omega
    · simp only [e, if_false] at h2 h3 h4 ⊢
      exact h.th4 j h1 h2 h3 h4

end
end Go.Proofs.Ytnjondphbfniaaa
