/- Single steps of the row, written out: plain. No condition. -/
import Derived.Test.YtnjondphbfniaaaJ
namespace Go.Proofs.Ytnjondphbfniaaa

theorem setS_setP (d : Dq) (i k : Nat) (p : Pt) (v : Int) : (d.setP i p).setS k v = (d.setS k v).setP i p := rfl
theorem setP_fields (d : Dq) (i : Nat) (p : Pt) : (d.setP i p).top = d.top ∧ (d.setP i p).bottom = d.bottom ∧ (d.setP i p).room = d.room ∧ (d.setP i p).slots = d.slots ∧ (∀ n, (d.setP i p).at' n = d.at' n) ∧ (d.setP i p).n = d.n :=
  ⟨rfl, rfl, rfl, rfl, fun _ => rfl, rfl⟩

section
variable {d : Dq} {i : Nat}

theorem setP_has (hi : i < d.n) (p : Pt) : (d.setP i p).has (i : Int) = true := Dq.has_iff.2 ⟨by omega, by show (i : Int) < d.n; omega⟩

/-- A step of a party of which all is known. -/
theorem step_of (p : Pt) (hi : i < d.n) (hc : 1 ≤ p.call ∧ p.call ≤ 3) {g : Int × Dq} (hg : (d.setP i p).go i = g) :
    (d.setP i p).step i = (g.1, if g.1 = 1 then (g.2.ps i).x else 0, 0, Dq.done g i) := by
  unfold Dq.step
  rw [if_pos (setP_has hi p), Int.toNat_natCast, Dq.setP_same, if_pos hc, hg]

variable (hi : i < d.n) {b t x : Int} {w : Bool}
include hi
theorem st11  : (d.setP i ⟨1, 1, b, t, x, w⟩).step i = (0, 0, 0, d.setP i ⟨1, 2, d.bottom, t, x, w⟩) := by
  rw [step_of _ hi ⟨by simp, by simp⟩ (g := (d.setP i ⟨1, 1, b, t, x, w⟩).go i) rfl]
  simp [Dq.go, Dq.push, Dq.done, Dq.setP_same, setP_setP, setB_setP, setT_setP, setS_setP, setP_fields]

theorem st12 (h : ¬ d.room ≤ b - d.top) : (d.setP i ⟨1, 2, b, t, x, w⟩).step i = (0, 0, 0, d.setP i ⟨1, 3, b, d.top, x, w⟩) := by
  rw [step_of _ hi ⟨by simp, by simp⟩ (g := (d.setP i ⟨1, 2, b, t, x, w⟩).go i) rfl]
  simp [Dq.go, Dq.push, Dq.done, Dq.setP_same, setP_setP, setB_setP, setT_setP, setS_setP, setP_fields, h]

theorem st12f (h : d.room ≤ b - d.top) : (d.setP i ⟨1, 2, b, t, x, w⟩).step i = (4, 0, 0, d.setP i Pt.none) := by
  rw [step_of _ hi ⟨by simp, by simp⟩ (g := (d.setP i ⟨1, 2, b, t, x, w⟩).go i) rfl]
  simp [Dq.go, Dq.push, Dq.done, Dq.setP_same, setP_setP, setB_setP, setT_setP, setS_setP, setP_fields, h]

theorem st13  : (d.setP i ⟨1, 3, b, t, x, w⟩).step i = (0, 0, 0, (d.setS (d.at' b) x).setP i ⟨1, 4, b, t, x, w⟩) := by
  rw [step_of _ hi ⟨by simp, by simp⟩ (g := (d.setP i ⟨1, 3, b, t, x, w⟩).go i) rfl]
  simp [Dq.go, Dq.push, Dq.done, Dq.setP_same, setP_setP, setB_setP, setT_setP, setS_setP, setP_fields]

theorem st14  : (d.setP i ⟨1, 4, b, t, x, w⟩).step i = (2, 0, 0, (d.setB (b + 1)).setP i Pt.none) := by
  rw [step_of _ hi ⟨by simp, by simp⟩ (g := (d.setP i ⟨1, 4, b, t, x, w⟩).go i) rfl]
  simp [Dq.go, Dq.push, Dq.done, Dq.setP_same, setP_setP, setB_setP, setT_setP, setS_setP, setP_fields]

theorem st21  : (d.setP i ⟨2, 1, b, t, x, w⟩).step i = (0, 0, 0, (d.setB (d.bottom - 1)).setP i ⟨2, 2, d.bottom - 1, t, x, w⟩) := by
  rw [step_of _ hi ⟨by simp, by simp⟩ (g := (d.setP i ⟨2, 1, b, t, x, w⟩).go i) rfl]
  simp [Dq.go, Dq.pop, Dq.done, Dq.setP_same, setP_setP, setB_setP, setT_setP, setS_setP, setP_fields]

theorem st22 (h : ¬ b < d.top) : (d.setP i ⟨2, 2, b, t, x, w⟩).step i = (0, 0, 0, d.setP i ⟨2, 3, b, d.top, x, w⟩) := by
  rw [step_of _ hi ⟨by simp, by simp⟩ (g := (d.setP i ⟨2, 2, b, t, x, w⟩).go i) rfl]
  simp [Dq.go, Dq.pop, Dq.done, Dq.setP_same, setP_setP, setB_setP, setT_setP, setS_setP, setP_fields, h]

theorem st22e (h : b < d.top) : (d.setP i ⟨2, 2, b, t, x, w⟩).step i = (0, 0, 0, d.setP i ⟨2, 5, b, d.top, x, w⟩) := by
  rw [step_of _ hi ⟨by simp, by simp⟩ (g := (d.setP i ⟨2, 2, b, t, x, w⟩).go i) rfl]
  simp [Dq.go, Dq.pop, Dq.done, Dq.setP_same, setP_setP, setB_setP, setT_setP, setS_setP, setP_fields, h]

theorem st23 (h : t < b) : (d.setP i ⟨2, 3, b, t, x, w⟩).step i = (1, d.slots (d.at' b), 0, d.setP i Pt.none) := by
  rw [step_of _ hi ⟨by simp, by simp⟩ (g := (d.setP i ⟨2, 3, b, t, x, w⟩).go i) rfl]
  simp [Dq.go, Dq.pop, Dq.done, Dq.setP_same, setP_setP, setB_setP, setT_setP, setS_setP, setP_fields, h]

theorem st23e (h : ¬ t < b) : (d.setP i ⟨2, 3, b, t, x, w⟩).step i = (0, 0, 0, d.setP i ⟨2, 4, b, t, d.slots (d.at' b), w⟩) := by
  rw [step_of _ hi ⟨by simp, by simp⟩ (g := (d.setP i ⟨2, 3, b, t, x, w⟩).go i) rfl]
  simp [Dq.go, Dq.pop, Dq.done, Dq.setP_same, setP_setP, setB_setP, setT_setP, setS_setP, setP_fields, h]

theorem st24 (h : d.top = t) : (d.setP i ⟨2, 4, b, t, x, w⟩).step i = (0, 0, 0, (d.setT (d.top + 1)).setP i ⟨2, 5, b, t, x, true⟩) := by
  rw [step_of _ hi ⟨by simp, by simp⟩ (g := (d.setP i ⟨2, 4, b, t, x, w⟩).go i) rfl]
  simp [Dq.go, Dq.pop, Dq.done, Dq.setP_same, setP_setP, setB_setP, setT_setP, setS_setP, setP_fields, h]

theorem st24n (h : ¬ d.top = t) : (d.setP i ⟨2, 4, b, t, x, w⟩).step i = (0, 0, 0, d.setP i ⟨2, 5, b, t, x, false⟩) := by
  rw [step_of _ hi ⟨by simp, by simp⟩ (g := (d.setP i ⟨2, 4, b, t, x, w⟩).go i) rfl]
  simp [Dq.go, Dq.pop, Dq.done, Dq.setP_same, setP_setP, setB_setP, setT_setP, setS_setP, setP_fields, h]

theorem st25  : (d.setP i ⟨2, 5, b, t, x, true⟩).step i = (1, x, 0, (d.setB (b + 1)).setP i Pt.none) := by
  rw [step_of _ hi ⟨by simp, by simp⟩ (g := (d.setP i ⟨2, 5, b, t, x, true⟩).go i) rfl]
  simp [Dq.go, Dq.pop, Dq.done, Dq.setP_same, setP_setP, setB_setP, setT_setP, setS_setP, setP_fields]

theorem st25n  : (d.setP i ⟨2, 5, b, t, x, false⟩).step i = (3, 0, 0, (d.setB (b + 1)).setP i Pt.none) := by
  rw [step_of _ hi ⟨by simp, by simp⟩ (g := (d.setP i ⟨2, 5, b, t, x, false⟩).go i) rfl]
  simp [Dq.go, Dq.pop, Dq.done, Dq.setP_same, setP_setP, setB_setP, setT_setP, setS_setP, setP_fields]

theorem st31  : (d.setP i ⟨3, 1, b, t, x, w⟩).step i = (0, 0, 0, d.setP i ⟨3, 2, b, d.top, x, w⟩) := by
  rw [step_of _ hi ⟨by simp, by simp⟩ (g := (d.setP i ⟨3, 1, b, t, x, w⟩).go i) rfl]
  simp [Dq.go, Dq.steal, Dq.done, Dq.setP_same, setP_setP, setB_setP, setT_setP, setS_setP, setP_fields]

theorem st32 (h : ¬ d.bottom ≤ t) : (d.setP i ⟨3, 2, b, t, x, w⟩).step i = (0, 0, 0, d.setP i ⟨3, 3, d.bottom, t, x, w⟩) := by
  rw [step_of _ hi ⟨by simp, by simp⟩ (g := (d.setP i ⟨3, 2, b, t, x, w⟩).go i) rfl]
  simp [Dq.go, Dq.steal, Dq.done, Dq.setP_same, setP_setP, setB_setP, setT_setP, setS_setP, setP_fields, h]

theorem st32e (h : d.bottom ≤ t) : (d.setP i ⟨3, 2, b, t, x, w⟩).step i = (3, 0, 0, d.setP i Pt.none) := by
  rw [step_of _ hi ⟨by simp, by simp⟩ (g := (d.setP i ⟨3, 2, b, t, x, w⟩).go i) rfl]
  simp [Dq.go, Dq.steal, Dq.done, Dq.setP_same, setP_setP, setB_setP, setT_setP, setS_setP, setP_fields, h]

theorem st33  : (d.setP i ⟨3, 3, b, t, x, w⟩).step i = (0, 0, 0, d.setP i ⟨3, 4, b, t, d.slots (d.at' t), w⟩) := by
  rw [step_of _ hi ⟨by simp, by simp⟩ (g := (d.setP i ⟨3, 3, b, t, x, w⟩).go i) rfl]
  simp [Dq.go, Dq.steal, Dq.done, Dq.setP_same, setP_setP, setB_setP, setT_setP, setS_setP, setP_fields]

theorem st34 (h : d.top = t) : (d.setP i ⟨3, 4, b, t, x, w⟩).step i = (1, x, 0, (d.setT (d.top + 1)).setP i Pt.none) := by
  rw [step_of _ hi ⟨by simp, by simp⟩ (g := (d.setP i ⟨3, 4, b, t, x, w⟩).go i) rfl]
  simp [Dq.go, Dq.steal, Dq.done, Dq.setP_same, setP_setP, setB_setP, setT_setP, setS_setP, setP_fields, h]

theorem st34n (h : ¬ d.top = t) : (d.setP i ⟨3, 4, b, t, x, w⟩).step i = (5, 0, 0, d.setP i Pt.none) := by
  rw [step_of _ hi ⟨by simp, by simp⟩ (g := (d.setP i ⟨3, 4, b, t, x, w⟩).go i) rfl]
  simp [Dq.go, Dq.steal, Dq.done, Dq.setP_same, setP_setP, setB_setP, setT_setP, setS_setP, setP_fields, h]
end
end Go.Proofs.Ytnjondphbfniaaa
