/- How a call alone goes, from its beginning to its end: plain. No condition. -/
import Derived.Test.YtnjondphbfniaaaV
import Derived.Test.YtnjondphbfniaaaS
namespace Go.Proofs.Ytnjondphbfniaaa

/-- Steps of a party till its call is ended: what it takes. -/
def oneGo (who : Int) : Nat → Dq → Bool × Int × Dq
  | 0, d => (false, 0, d)
  | n + 1, d => if (d.step who).1 = 0 then oneGo who n (d.step who).2.2.2 else (decide ((d.step who).1 = 1), (d.step who).2.1, (d.step who).2.2.2)

def oneBegin (d : Dq) (who : Int) : Dq := if who = 0 then (d.begin 0 2 0).2 else (d.theft who).2
def oneD (d : Dq) (who : Int) : Bool × Int × Dq := oneGo who 6 (oneBegin d who)

theorem oneGo_on {who x e : Int} {n : Nat} {d d' : Dq} (h : d.step who = (0, x, e, d')) : oneGo who (n + 1) d = oneGo who n d' := by
  rw [oneGo, h]; rfl
theorem oneGo_end {who x e c : Int} {n : Nat} {d d' : Dq} (h : d.step who = (c, x, e, d')) (hc : c ≠ 0) : oneGo who (n + 1) d = (decide (c = 1), x, d') := by
  rw [oneGo, h]; simp [hc]

theorem Dq.Ok.monoN {d : Dq} {K K' : Nat} (h : d.Ok K) (hk : K ≤ K') : d.Ok K' := by
  obtain ⟨m, rfl⟩ := Nat.le.dest hk
  clear hk
  induction m with
  | zero => exact h
  | succ m ih => exact ih.mono

theorem Dq.Ok.oneGo {who : Int} : ∀ (n : Nat) {d : Dq} {K : Nat}, d.Ok K → (oneGo who n d).2.2.Ok (K + n)
  | 0, _, _, h => h
  | n + 1, d, K, h => by
    unfold Proofs.Ytnjondphbfniaaa.oneGo
    split
    · have := Dq.Ok.oneGo (who := who) n (h.step who)
      exact this.monoN (by omega)
    · exact (h.step who).monoN (by omega)

theorem Dq.Ok.oneBegin {d : Dq} {K : Nat} (h : d.Ok K) (who : Int) : (oneBegin d who).Ok (K + 1) := by
  unfold Proofs.Ytnjondphbfniaaa.oneBegin
  split
  · exact h.begin 0 2 0 (.inl ⟨.inr rfl, rfl⟩)
  · exact h.theft who

theorem Dq.Ok.oneD {d : Dq} {K : Nat} (h : d.Ok K) (who : Int) : (oneD d who).2.2.Ok (K + 7) := (h.oneBegin who).oneGo 6

/-- Alone: nobody is in a call; what lies from f on, up to t. -/
structure Alone (d : Dq) (l : Nat → Int) (f t : Nat) : Prop where
  n : d.n = 2
  room : d.room = 64
  le : f ≤ t ∧ t ≤ 60
  ends : f < t → d.top = f ∧ d.bottom = t
  eq : f = t → d.top = d.bottom
  slots : ∀ i, f ≤ i → i < t → d.slots i = l i
  p0 : d.ps 0 = Pt.none
  p1 : d.ps 1 = Pt.none

/-- What is put in alone: from none on. -/
structure Full (d : Dq) (l : Nat → Int) (t : Nat) : Prop where
  alone : Alone d l 0 t
  top : d.top = 0
  bottom : d.bottom = t

theorem Full.fresh (l : Nat → Int) : Full (Dq.fresh 64 1) l 0 :=
  ⟨⟨by decide +kernel, by decide +kernel, by omega, by omega, fun _ => rfl, fun i _ h => by omega, rfl, rfl⟩, rfl, rfl⟩

theorem at_lit {d : Dq} (h : d.room = 64) {k : Nat} (hk : k ≤ 60) : d.at' k = k := by
  unfold Dq.at'
  rw [h]
  omega

theorem Alone.len {d : Dq} {l : Nat → Int} {f t : Nat} (h : Alone d l f t) : d.len = (t : Int) - f := by
  unfold Dq.len
  have h1 := h.le
  by_cases e : f = t
  · have := h.eq e; omega
  · have := h.ends (by omega); omega

theorem has_zero {d : Dq} (h : d.n = 2) : d.has 0 = true := Dq.has_iff.2 ⟨by omega, by omega⟩
theorem has_one {d : Dq} (h : d.n = 2) : d.has 1 = true := Dq.has_iff.2 ⟨by omega, by omega⟩

theorem begin0 {d : Dq} (h : d.n = 2) (hp : d.ps 0 = Pt.none) (c x : Int) : d.begin 0 c x = (0, d.setP 0 ⟨c, 1, 0, 0, x, false⟩) := by
  unfold Dq.begin
  rw [if_pos (has_zero h)]
  simp [hp, Pt.none]

theorem theft1 {d : Dq} (h : d.n = 2) (hp : d.ps 1 = Pt.none) : d.theft 1 = (0, d.setP 1 ⟨3, 1, 0, 0, 0, false⟩) := by
  unfold Dq.theft Dq.begin
  rw [if_neg (by omega), if_pos (has_one h)]
  simp [hp, Pt.none]

/-- A push alone. -/
theorem Full.push {d : Dq} {l : Nat → Int} {t : Nat} (h : Full d l t) (ht : t < 60) :
    (d.begin 0 1 (l t)).1 = 0 ∧ Full (stepsOf 0 (d.begin 0 1 (l t)).2 4) l (t + 1) := by
  have hA := h.alone
  have h0 : 0 < d.n := by rw [hA.n]; omega
  rw [begin0 hA.n hA.p0]
  refine ⟨rfl, ?_⟩
  have e1 := st11 (d := d) (i := 0) h0 (b := 0) (t := 0) (x := l t) (w := false)
  have e2 := st12 (d := d) (i := 0) h0 (b := d.bottom) (t := 0) (x := l t) (w := false) (by rw [hA.room, h.top, h.bottom]; omega)
  have e3 := st13 (d := d) (i := 0) h0 (b := d.bottom) (t := d.top) (x := l t) (w := false)
  have e4 := st14 (d := d.setS (d.at' d.bottom) (l t)) (i := 0) h0 (b := d.bottom) (t := d.top) (x := l t) (w := false)
  rw [show ((0 : Nat) : Int) = 0 from rfl] at e1 e2 e3 e4
  have : stepsOf 0 (d.setP 0 ⟨1, 1, 0, 0, l t, false⟩) 4 = ((d.setS (d.at' d.bottom) (l t)).setB (d.bottom + 1)).setP 0 Pt.none := by
    simp only [stepsOf, e1, e2, e3, e4]
  rw [this, h.bottom, at_lit hA.room (by omega)]
  refine ⟨⟨hA.n, hA.room, by omega, fun _ => ⟨h.top, rfl⟩, by omega, fun i _ hi => ?_, Dq.setP_same _ _ _, (Dq.setP_other _ _ (by omega)).trans hA.p1⟩, h.top, rfl⟩
  show (if i = t then l t else d.slots i) = l i
  split
  · rename_i e; rw [e]
  · exact hA.slots i (by omega) (by omega)

/-- A pop alone, where there is something. -/
theorem Alone.pop {d : Dq} {l : Nat → Int} {f t : Nat} (h : Alone d l f t) (hf : f < t) :
    ∃ d', oneD d 0 = (true, l (t - 1), d') ∧ Alone d' l f (t - 1) := by
  have h0 : 0 < d.n := by rw [h.n]; omega
  have hle := h.le
  obtain ⟨hT, hB⟩ := h.ends hf
  have hB1 : d.bottom - 1 = ((t - 1 : Nat) : Int) := by omega
  unfold oneD oneBegin
  rw [if_pos rfl, begin0 h.n h.p0]
  simp only
  have e1 := st21 (d := d) (i := 0) h0 (b := 0) (t := 0) (x := 0) (w := false)
  have e2 := st22 (d := d.setB (d.bottom - 1)) (i := 0) h0 (b := d.bottom - 1) (t := 0) (x := 0) (w := false) (by show ¬ d.bottom - 1 < d.top; omega)
  rw [show (d.setB (d.bottom - 1)).top = d.top from rfl] at e2
  have es : (d.setB (d.bottom - 1)).slots ((d.setB (d.bottom - 1)).at' (d.bottom - 1)) = l (t - 1) := by
    rw [hB1, at_lit (d := d.setB ((t - 1 : Nat) : Int)) h.room (k := t - 1) (by omega)]
    exact h.slots _ (by omega) (by omega)
  by_cases e : f + 1 = t
  · have e3 := st23e (d := d.setB (d.bottom - 1)) (i := 0) h0 (b := d.bottom - 1) (t := d.top) (x := 0) (w := false) (by omega)
    have e4 := st24 (d := d.setB (d.bottom - 1)) (i := 0) h0 (b := d.bottom - 1) (t := d.top) (x := l (t - 1)) (w := false) rfl
    have e5 := st25 (d := (d.setB (d.bottom - 1)).setT (d.top + 1)) (i := 0) h0 (b := d.bottom - 1) (t := d.top) (x := l (t - 1))
    rw [es] at e3
    rw [show (d.setB (d.bottom - 1)).top = d.top from rfl] at e4
    rw [show ((0 : Nat) : Int) = 0 from rfl] at e1 e2 e3 e4 e5
    rw [oneGo_on e1, oneGo_on e2, oneGo_on e3, oneGo_on e4, oneGo_end e5 (by omega)]
    refine ⟨_, rfl, h.n, h.room, by omega, by omega, fun _ => ?_, fun i _ _ => by omega, Dq.setP_same _ _ _, (Dq.setP_other _ _ (by omega)).trans h.p1⟩
    show d.top + 1 = d.bottom - 1 + 1
    omega
  · have e3 := st23 (d := d.setB (d.bottom - 1)) (i := 0) h0 (b := d.bottom - 1) (t := d.top) (x := 0) (w := false) (by omega)
    rw [es] at e3
    rw [show ((0 : Nat) : Int) = 0 from rfl] at e1 e2 e3
    rw [oneGo_on e1, oneGo_on e2, oneGo_end e3 (by omega)]
    refine ⟨_, rfl, h.n, h.room, by omega, fun _ => ⟨hT, ?_⟩, by omega, fun i _ _ => h.slots i (by omega) (by omega), Dq.setP_same _ _ _, (Dq.setP_other _ _ (by omega)).trans h.p1⟩
    show d.bottom - 1 = _
    omega

/-- A theft alone, where there is something. -/
theorem Alone.steal {d : Dq} {l : Nat → Int} {f t : Nat} (h : Alone d l f t) (hf : f < t) :
    ∃ d', oneD d 1 = (true, l f, d') ∧ Alone d' l (f + 1) t := by
  have h0 : 1 < d.n := by rw [h.n]; omega
  have hle := h.le
  obtain ⟨hT, hB⟩ := h.ends hf
  unfold oneD oneBegin
  rw [if_neg (by omega), theft1 h.n h.p1]
  simp only
  have es : d.slots (d.at' d.top) = l f := by
    rw [hT, at_lit h.room (by omega)]
    exact h.slots _ (by omega) (by omega)
  have e1 := st31 (d := d) (i := 1) h0 (b := 0) (t := 0) (x := 0) (w := false)
  have e2 := st32 (d := d) (i := 1) h0 (b := 0) (t := d.top) (x := 0) (w := false) (by omega)
  have e3 := st33 (d := d) (i := 1) h0 (b := d.bottom) (t := d.top) (x := 0) (w := false)
  have e4 := st34 (d := d) (i := 1) h0 (b := d.bottom) (t := d.top) (x := l f) (w := false) rfl
  rw [es] at e3
  rw [show ((1 : Nat) : Int) = 1 from rfl] at e1 e2 e3 e4
  rw [oneGo_on e1, oneGo_on e2, oneGo_on e3, oneGo_end e4 (by omega)]
  refine ⟨_, rfl, h.n, h.room, by omega, fun _ => ⟨?_, hB⟩, fun _ => ?_, fun i _ _ => h.slots i (by omega) (by omega), (Dq.setP_other _ _ (by omega)).trans h.p0, Dq.setP_same _ _ _⟩
  · show d.top + 1 = _
    omega
  · show d.top + 1 = d.bottom
    omega

/-- A theft alone, where there is nothing. -/
theorem Alone.empty {d : Dq} {l : Nat → Int} {f : Nat} (h : Alone d l f f) : (oneD d 1).1 = false := by
  have h0 : 1 < d.n := by rw [h.n]; omega
  unfold oneD oneBegin
  rw [if_neg (by omega), theft1 h.n h.p1]
  simp only
  have e1 := st31 (d := d) (i := 1) h0 (b := 0) (t := 0) (x := 0) (w := false)
  have e2 := st32e (d := d) (i := 1) h0 (b := 0) (t := d.top) (x := 0) (w := false) (by have := h.eq rfl; omega)
  rw [show ((1 : Nat) : Int) = 1 from rfl] at e1 e2
  rw [oneGo_on e1, oneGo_end e2 (by omega)]
  rfl

theorem Alone.empty_eq {d : Dq} {l : Nat → Int} {f t : Nat} (h : Alone d l f t) (e : f = t) : (oneD d 1).1 = false := by
  subst e
  exact h.empty

/-- How far it went from below, and from above, behind so many takings. -/
def fromOf (how : Nat → Bool) (hl : Nat) : Nat → Nat
  | 0 => 0
  | k + 1 => fromOf how hl k + if k < hl ∧ how k = true then 1 else 0
theorem fromOf_le (how : Nat → Bool) (hl : Nat) : ∀ k, fromOf how hl k ≤ k
  | 0 => Nat.le_refl _
  | k + 1 => by
    have := fromOf_le how hl k
    unfold fromOf
    split <;> omega
end Go.Proofs.Ytnjondphbfniaaa
