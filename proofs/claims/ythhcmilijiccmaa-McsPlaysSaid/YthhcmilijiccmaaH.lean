/- The document's answer for the lock (package pinfoldref29): the contract of Step. No condition. -/
import Derived.Test.YthhcmilijiccmaaG
namespace Go.Proofs.Ythhcmilijiccmaa
open Go.RowKit

theorem AtOk.set {L : Lock} {A : Nat → Int} (h : AtOk L A) (i : Nat) (v : Int) (L' : Lock) (h0 : 0 ≤ v ∧ v ≤ 6) (h1 : ∀ j, j ≠ i → (L'.ps j).state = (L.ps j).state ∧ (L'.ps j).step = (L.ps j).step)
    (h2 : (L'.ps i).state = 1 ∨ (L'.ps i).state = 3 → v = (L'.ps i).step) : AtOk L' (updI A i v) := by
  refine ⟨fun j => ?_, fun j hj => ?_⟩
  · by_cases e : j = i
    · simp [updI, e, h0]
    · simp only [updI, if_neg e]; exact h.range j
  · by_cases e : j = i
    · subst e; simp only [updI, if_true]; exact h2 hj
    · obtain ⟨a, b⟩ := h1 j e
      simp only [updI, if_neg e]
      rw [a] at hj; rw [b]; exact h.same j hj

/-- What the call is told of, with the party's own cells. -/
structure Facts (w : World) (B C : Nat → Nat) (L : Lock) (A : Nat → Int) (i : Nat) : Prop where
  t0 : w.cell? ⟨B 0, 0, none⟩ = some (.int .i64 L.tail)
  t1 : w.cell? ⟨B 0, 1, none⟩ = some (.slice (some ⟨B 1, 0, none⟩) L.n (C 1))
  t2 : w.cell? ⟨B 0, 2, none⟩ = some (.slice (some ⟨B 2, 0, none⟩) L.n (C 2))
  t3 : w.cell? ⟨B 0, 3, none⟩ = some (.slice (some ⟨B 3, 0, none⟩) L.n (C 3))
  t4 : w.cell? ⟨B 0, 4, none⟩ = some (.slice (some ⟨B 4, 0, none⟩) L.n (C 4))
  t5 : w.cell? ⟨B 0, 5, none⟩ = some (.slice (some ⟨B 5, 0, none⟩) L.n (C 5))
  c1 : w.cell? ⟨B 1, i, none⟩ = some (.int .i64 (L.ps i).next)
  c2 : w.cell? ⟨B 2, i, none⟩ = some (.bool (L.ps i).waits)
  c3 : w.cell? ⟨B 3, i, none⟩ = some (.int .i64 (L.ps i).state)
  c4 : w.cell? ⟨B 4, i, none⟩ = some (.int .i64 (A i))
  c5 : w.cell? ⟨B 5, i, none⟩ = some (.int .i64 (L.ps i).other)

theorem facts {w : World} {B C : Nat → Nat} {L : Lock} {A : Nat → Int} {i : Nat} (h : IsRef w B C L A) (hi : i < L.n) : Facts w B C L A i :=
  ⟨(h.top.cell (o := 0) (by omega)).trans rfl, (h.top.cell (o := 1) (by omega)).trans rfl, (h.top.cell (o := 2) (by omega)).trans rfl, (h.top.cell (o := 3) (by omega)).trans rfl, (h.top.cell (o := 4) (by omega)).trans rfl, (h.top.cell (o := 5) (by omega)).trans rfl,
   ((h.rows 1 (by omega) (by omega)).cell hi).trans rfl, ((h.rows 2 (by omega) (by omega)).cell hi).trans rfl, ((h.rows 3 (by omega) (by omega)).cell hi).trans rfl, ((h.rows 4 (by omega) (by omega)).cell hi).trans rfl, ((h.rows 5 (by omega) (by omega)).cell hi).trans rfl⟩

/-- What is claimed of a step. -/
def RPost (B C : Nat → Nat) (L : Lock) (who : Int) (w : World) (r : Ending) (w' : World) : Prop :=
  r = .returned (.tuple #[.bool (L.step who).1, .int .i64 (L.step who).2.1]) ∧ (∃ A', IsRef w' B C (L.step who).2.2 A' ∧ AtOk (L.step who).2.2 A') ∧ Frm (InRef B) w w'

set_option maxRecDepth 100000 in
set_option maxHeartbeats 1000000 in
theorem RStep_no (B C : Nat → Nat) (L : Lock) (A : Nat → Int) (who : Int) (w : World) (h : IsRef w B C L A) (ha : AtOk L A) (ok : L.Ok) (hh : L.has who = false) :
    Calls Try.prog 14 #[.pointer (some ⟨B 0, 0, none⟩), .int .i64 who] w (RPost B C L who w) := by
  have hn := ok.n
  have hno : who < 0 ∨ (L.n : Int) ≤ who := by
    have : ¬ (0 ≤ who ∧ who < L.n) := fun hc => by rw [Lock.has_iff.2 hc] at hh; cases hh
    omega
  have t3 : w.cell? ⟨B 0, 3, none⟩ = some (.slice (some ⟨B 3, 0, none⟩) L.n (C 3)) := (h.top.cell (o := 3) (by omega)).trans rfl
  have HR := Lib.hid (show L.step who = (false, 1, L) by simp [Lock.step, hh])
  have HL := Lib.hid h
  have HA := Lib.hid ha
  clear h ha ok hh
  by_cases h0 : who < 0
  · go_enter Try.func14, Try.ntmps14
    go_wp2
    go_ret2
    unfold RPost
    rw [HR.out]
    exact ⟨rfl, ⟨A, HL.out, HA.out⟩, Frm.refl _ _⟩
  · go_enter Try.func14, Try.ntmps14
    go_wp2
    go_ret2
    unfold RPost
    rw [HR.out]
    exact ⟨rfl, ⟨A, HL.out, HA.out⟩, Frm.refl _ _⟩

theorem step_of {L X : Lock} {i : Nat} {st : Int} (hh : L.has (i : Int) = true) (hs : (L.ps i).state = st) (h13 : st = 1 ∨ st = 3) (hX : L.stepAt i = X) : L.step i = ((X.ps i).state != st, 0, X) := by
  simp only [Lock.step, hh, if_true, Int.toNat_natCast, hX, hs]
  rw [if_pos h13]

theorem setP_eta {L : Lock} {i : Nat} {v : Int} (h : (L.ps i).state = v) : L.setP i { L.ps i with state := v } = L := by
  subst h
  simp only [Lock.setP]
  congr 1
  funext j
  by_cases e : j = i
  · subst e; simp
  · simp [e]

theorem other_state {L : Lock} {o i : Nat} (p : Party) (h : p.state = (L.ps o).state) : ((L.setP o p).ps i).state = (L.ps i).state := by
  by_cases e : i = o
  · subst e; rw [Lock.setP_same, h]
  · rw [Lock.setP_other _ _ e]

theorem next_state (L : Lock) (o i : Nat) (v : Int) : ((L.setP o { L.ps o with next := v }).ps i).state = (L.ps i).state := other_state { L.ps o with next := v } rfl
theorem waits_state (L : Lock) (o i : Nat) (v : Bool) : ((L.setP o { L.ps o with waits := v }).ps i).state = (L.ps i).state := other_state { L.ps o with waits := v } rfl

theorem other_step {L : Lock} {o i : Nat} (p : Party) (h : p.step = (L.ps o).step) : ((L.setP o p).ps i).step = (L.ps i).step := by
  by_cases e : i = o
  · subst e; rw [Lock.setP_same, h]
  · rw [Lock.setP_other _ _ e]

theorem next_step (L : Lock) (o i : Nat) (v : Int) : ((L.setP o { L.ps o with next := v }).ps i).step = (L.ps i).step := other_step { L.ps o with next := v } rfl
theorem waits_step (L : Lock) (o i : Nat) (v : Bool) : ((L.setP o { L.ps o with waits := v }).ps i).step = (L.ps i).step := other_step { L.ps o with waits := v } rfl

set_option maxRecDepth 100000 in
set_option maxHeartbeats 2000000 in
theorem RStep11 (B C : Nat → Nat) (L : Lock) (A : Nat → Int) (i : Nat) (w : World) (h : IsRef w B C L A) (ha : AtOk L A) (ok : L.Ok) (hi : i < L.n) (hs : (L.ps i).state = 1) (hp : (L.ps i).step = 1) :
    Calls Try.prog 14 #[.pointer (some ⟨B 0, 0, none⟩), .int .i64 i] w (RPost B C L i w) := by
  have hn := ok.n
  have pk := ok.ps i
  have hA : A i = 1 := by rw [ha.same i (.inl hs), hp]
  obtain ⟨t0, t1, t2, t3, t4, t5, c1, c2, c3, c4, c5⟩ := facts h hi
  rw [hA] at c4
  have d01 := h.apart 0 1 (by omega) (by omega) (by omega)
  have d02 := h.apart 0 2 (by omega) (by omega) (by omega)
  have d03 := h.apart 0 3 (by omega) (by omega) (by omega)
  have d04 := h.apart 0 4 (by omega) (by omega) (by omega)
  have d05 := h.apart 0 5 (by omega) (by omega) (by omega)
  have d10 := h.apart 1 0 (by omega) (by omega) (by omega)
  have d12 := h.apart 1 2 (by omega) (by omega) (by omega)
  have d13 := h.apart 1 3 (by omega) (by omega) (by omega)
  have d14 := h.apart 1 4 (by omega) (by omega) (by omega)
  have d15 := h.apart 1 5 (by omega) (by omega) (by omega)
  have d20 := h.apart 2 0 (by omega) (by omega) (by omega)
  have d21 := h.apart 2 1 (by omega) (by omega) (by omega)
  have d23 := h.apart 2 3 (by omega) (by omega) (by omega)
  have d24 := h.apart 2 4 (by omega) (by omega) (by omega)
  have d25 := h.apart 2 5 (by omega) (by omega) (by omega)
  have d30 := h.apart 3 0 (by omega) (by omega) (by omega)
  have d31 := h.apart 3 1 (by omega) (by omega) (by omega)
  have d32 := h.apart 3 2 (by omega) (by omega) (by omega)
  have d34 := h.apart 3 4 (by omega) (by omega) (by omega)
  have d35 := h.apart 3 5 (by omega) (by omega) (by omega)
  have d40 := h.apart 4 0 (by omega) (by omega) (by omega)
  have d41 := h.apart 4 1 (by omega) (by omega) (by omega)
  have d42 := h.apart 4 2 (by omega) (by omega) (by omega)
  have d43 := h.apart 4 3 (by omega) (by omega) (by omega)
  have d45 := h.apart 4 5 (by omega) (by omega) (by omega)
  have d50 := h.apart 5 0 (by omega) (by omega) (by omega)
  have d51 := h.apart 5 1 (by omega) (by omega) (by omega)
  have d52 := h.apart 5 2 (by omega) (by omega) (by omega)
  have d53 := h.apart 5 3 (by omega) (by omega) (by omega)
  have d54 := h.apart 5 4 (by omega) (by omega) (by omega)
  have fz1 : ∀ o, w.frozen? ⟨B 1, o, none⟩ = false := (h.rows 1 (by omega) (by omega)).frozen
  have fz2 : ∀ o, w.frozen? ⟨B 2, o, none⟩ = false := (h.rows 2 (by omega) (by omega)).frozen
  have fz3 : ∀ o, w.frozen? ⟨B 3, o, none⟩ = false := (h.rows 3 (by omega) (by omega)).frozen
  have fz4 : ∀ o, w.frozen? ⟨B 4, o, none⟩ = false := (h.rows 4 (by omega) (by omega)).frozen
  have fz5 : ∀ o, w.frozen? ⟨B 5, o, none⟩ = false := (h.rows 5 (by omega) (by omega)).frozen
  have fz0 : ∀ o, w.frozen? ⟨B 0, o, none⟩ = false := h.top.frozen

  have hh : L.has i = true := Lock.has_iff.2 ⟨by omega, by omega⟩
  have HR := Lib.hid (show L.step i = (false, 0, L.setP i { L.ps i with next := -1, step := 2 }) by
    rw [step_of hh hs (by omega) (show L.stepAt i = L.setP i { L.ps i with next := -1, step := 2 } from by unfold Lock.stepAt; rw [if_pos hs]; unfold Lock.take; rw [if_pos hp])]
    simp [Lock.setP_same, Lock.setT_ps, hs])
  have HS := Lib.hid hs
  have HP := Lib.hid hp
  have HL := Lib.hid h
  have HA := Lib.hid ha
  rw [hs] at c3
  clear h ha ok hs hp hh hA pk 
  go_enter Try.func14, Try.ntmps14
  go_wp2
  go_wp2_with fail
  all_goals
    go_ret2
    unfold RPost
    rw [HR.out]
    refine ⟨rfl, ⟨_, ?_, HA.out.set i 2 _ (by omega) ?_ ?_⟩, ((((Frm.refl _ _).ref 1 (by omega) _ _).ref 4 (by omega) _ _).ref 3 (by omega) _ _)⟩
    · have := (((HL.out.setNext i (-1)).setAt i 2).setState i 1).setStep i 2
      simp only [Lock.setT_ps, Lock.setT_setP, Lock.setP_same, Lock.setP_setP] at this
      first | exact this | exact this.drew | (simp only [HS.out] at this ⊢; first | exact this | exact this.drew)
    · intro j hj
      simp [Lock.setP, Lock.setT, hj]
    · simp [Lock.setP_same, Lock.setT_ps]

set_option maxRecDepth 100000 in
set_option maxHeartbeats 2000000 in
theorem RStep12 (B C : Nat → Nat) (L : Lock) (A : Nat → Int) (i : Nat) (w : World) (h : IsRef w B C L A) (ha : AtOk L A) (ok : L.Ok) (hi : i < L.n) (hs : (L.ps i).state = 1) (hp : (L.ps i).step = 2) :
    Calls Try.prog 14 #[.pointer (some ⟨B 0, 0, none⟩), .int .i64 i] w (RPost B C L i w) := by
  have hn := ok.n
  have pk := ok.ps i
  have hA : A i = 2 := by rw [ha.same i (.inl hs), hp]
  obtain ⟨t0, t1, t2, t3, t4, t5, c1, c2, c3, c4, c5⟩ := facts h hi
  rw [hA] at c4
  have d01 := h.apart 0 1 (by omega) (by omega) (by omega)
  have d02 := h.apart 0 2 (by omega) (by omega) (by omega)
  have d03 := h.apart 0 3 (by omega) (by omega) (by omega)
  have d04 := h.apart 0 4 (by omega) (by omega) (by omega)
  have d05 := h.apart 0 5 (by omega) (by omega) (by omega)
  have d10 := h.apart 1 0 (by omega) (by omega) (by omega)
  have d12 := h.apart 1 2 (by omega) (by omega) (by omega)
  have d13 := h.apart 1 3 (by omega) (by omega) (by omega)
  have d14 := h.apart 1 4 (by omega) (by omega) (by omega)
  have d15 := h.apart 1 5 (by omega) (by omega) (by omega)
  have d20 := h.apart 2 0 (by omega) (by omega) (by omega)
  have d21 := h.apart 2 1 (by omega) (by omega) (by omega)
  have d23 := h.apart 2 3 (by omega) (by omega) (by omega)
  have d24 := h.apart 2 4 (by omega) (by omega) (by omega)
  have d25 := h.apart 2 5 (by omega) (by omega) (by omega)
  have d30 := h.apart 3 0 (by omega) (by omega) (by omega)
  have d31 := h.apart 3 1 (by omega) (by omega) (by omega)
  have d32 := h.apart 3 2 (by omega) (by omega) (by omega)
  have d34 := h.apart 3 4 (by omega) (by omega) (by omega)
  have d35 := h.apart 3 5 (by omega) (by omega) (by omega)
  have d40 := h.apart 4 0 (by omega) (by omega) (by omega)
  have d41 := h.apart 4 1 (by omega) (by omega) (by omega)
  have d42 := h.apart 4 2 (by omega) (by omega) (by omega)
  have d43 := h.apart 4 3 (by omega) (by omega) (by omega)
  have d45 := h.apart 4 5 (by omega) (by omega) (by omega)
  have d50 := h.apart 5 0 (by omega) (by omega) (by omega)
  have d51 := h.apart 5 1 (by omega) (by omega) (by omega)
  have d52 := h.apart 5 2 (by omega) (by omega) (by omega)
  have d53 := h.apart 5 3 (by omega) (by omega) (by omega)
  have d54 := h.apart 5 4 (by omega) (by omega) (by omega)
  have fz1 : ∀ o, w.frozen? ⟨B 1, o, none⟩ = false := (h.rows 1 (by omega) (by omega)).frozen
  have fz2 : ∀ o, w.frozen? ⟨B 2, o, none⟩ = false := (h.rows 2 (by omega) (by omega)).frozen
  have fz3 : ∀ o, w.frozen? ⟨B 3, o, none⟩ = false := (h.rows 3 (by omega) (by omega)).frozen
  have fz4 : ∀ o, w.frozen? ⟨B 4, o, none⟩ = false := (h.rows 4 (by omega) (by omega)).frozen
  have fz5 : ∀ o, w.frozen? ⟨B 5, o, none⟩ = false := (h.rows 5 (by omega) (by omega)).frozen
  have fz0 : ∀ o, w.frozen? ⟨B 0, o, none⟩ = false := h.top.frozen

  have hh : L.has i = true := Lock.has_iff.2 ⟨by omega, by omega⟩
  have HR := Lib.hid (show L.step i = (false, 0, L.setP i { L.ps i with waits := true, step := 3 }) by
    rw [step_of hh hs (by omega) (show L.stepAt i = L.setP i { L.ps i with waits := true, step := 3 } from by unfold Lock.stepAt; rw [if_pos hs]; unfold Lock.take; rw [if_neg (by omega), if_pos hp])]
    simp [Lock.setP_same, Lock.setT_ps, hs])
  have HS := Lib.hid hs
  have HP := Lib.hid hp
  have HL := Lib.hid h
  have HA := Lib.hid ha
  rw [hs] at c3
  clear h ha ok hs hp hh hA pk 
  go_enter Try.func14, Try.ntmps14
  go_wp2
  go_wp2_with fail
  all_goals
    go_ret2
    unfold RPost
    rw [HR.out]
    refine ⟨rfl, ⟨_, ?_, HA.out.set i 3 _ (by omega) ?_ ?_⟩, ((((Frm.refl _ _).ref 2 (by omega) _ _).ref 4 (by omega) _ _).ref 3 (by omega) _ _)⟩
    · have := (((HL.out.setWaits i true).setAt i 3).setState i 1).setStep i 3
      simp only [Lock.setT_ps, Lock.setT_setP, Lock.setP_same, Lock.setP_setP] at this
      first | exact this | exact this.drew | (simp only [HS.out] at this ⊢; first | exact this | exact this.drew)
    · intro j hj
      simp [Lock.setP, Lock.setT, hj]
    · simp [Lock.setP_same, Lock.setT_ps]

set_option maxRecDepth 100000 in
set_option maxHeartbeats 2000000 in
theorem RStep13a (B C : Nat → Nat) (L : Lock) (A : Nat → Int) (i : Nat) (w : World) (h : IsRef w B C L A) (ha : AtOk L A) (ok : L.Ok) (hi : i < L.n) (hs : (L.ps i).state = 1) (hp : (L.ps i).step = 3) (ht : L.tail = -1) :
    Calls Try.prog 14 #[.pointer (some ⟨B 0, 0, none⟩), .int .i64 i] w (RPost B C L i w) := by
  have hn := ok.n
  have pk := ok.ps i
  have hA : A i = 3 := by rw [ha.same i (.inl hs), hp]
  obtain ⟨t0, t1, t2, t3, t4, t5, c1, c2, c3, c4, c5⟩ := facts h hi
  rw [hA] at c4
  have d01 := h.apart 0 1 (by omega) (by omega) (by omega)
  have d02 := h.apart 0 2 (by omega) (by omega) (by omega)
  have d03 := h.apart 0 3 (by omega) (by omega) (by omega)
  have d04 := h.apart 0 4 (by omega) (by omega) (by omega)
  have d05 := h.apart 0 5 (by omega) (by omega) (by omega)
  have d10 := h.apart 1 0 (by omega) (by omega) (by omega)
  have d12 := h.apart 1 2 (by omega) (by omega) (by omega)
  have d13 := h.apart 1 3 (by omega) (by omega) (by omega)
  have d14 := h.apart 1 4 (by omega) (by omega) (by omega)
  have d15 := h.apart 1 5 (by omega) (by omega) (by omega)
  have d20 := h.apart 2 0 (by omega) (by omega) (by omega)
  have d21 := h.apart 2 1 (by omega) (by omega) (by omega)
  have d23 := h.apart 2 3 (by omega) (by omega) (by omega)
  have d24 := h.apart 2 4 (by omega) (by omega) (by omega)
  have d25 := h.apart 2 5 (by omega) (by omega) (by omega)
  have d30 := h.apart 3 0 (by omega) (by omega) (by omega)
  have d31 := h.apart 3 1 (by omega) (by omega) (by omega)
  have d32 := h.apart 3 2 (by omega) (by omega) (by omega)
  have d34 := h.apart 3 4 (by omega) (by omega) (by omega)
  have d35 := h.apart 3 5 (by omega) (by omega) (by omega)
  have d40 := h.apart 4 0 (by omega) (by omega) (by omega)
  have d41 := h.apart 4 1 (by omega) (by omega) (by omega)
  have d42 := h.apart 4 2 (by omega) (by omega) (by omega)
  have d43 := h.apart 4 3 (by omega) (by omega) (by omega)
  have d45 := h.apart 4 5 (by omega) (by omega) (by omega)
  have d50 := h.apart 5 0 (by omega) (by omega) (by omega)
  have d51 := h.apart 5 1 (by omega) (by omega) (by omega)
  have d52 := h.apart 5 2 (by omega) (by omega) (by omega)
  have d53 := h.apart 5 3 (by omega) (by omega) (by omega)
  have d54 := h.apart 5 4 (by omega) (by omega) (by omega)
  have fz1 : ∀ o, w.frozen? ⟨B 1, o, none⟩ = false := (h.rows 1 (by omega) (by omega)).frozen
  have fz2 : ∀ o, w.frozen? ⟨B 2, o, none⟩ = false := (h.rows 2 (by omega) (by omega)).frozen
  have fz3 : ∀ o, w.frozen? ⟨B 3, o, none⟩ = false := (h.rows 3 (by omega) (by omega)).frozen
  have fz4 : ∀ o, w.frozen? ⟨B 4, o, none⟩ = false := (h.rows 4 (by omega) (by omega)).frozen
  have fz5 : ∀ o, w.frozen? ⟨B 5, o, none⟩ = false := (h.rows 5 (by omega) (by omega)).frozen
  have fz0 : ∀ o, w.frozen? ⟨B 0, o, none⟩ = false := h.top.frozen
  have HT := Lib.hid ht
  rw [ht] at t0
  have hh : L.has i = true := Lock.has_iff.2 ⟨by omega, by omega⟩
  have HR := Lib.hid (show L.step i = (true, 0, (L.setP i { L.ps i with other := -1, state := 2, step := 4 }).setT i) by
    rw [step_of hh hs (by omega) (show L.stepAt i = (L.setP i { L.ps i with other := -1, state := 2, step := 4 }).setT i from by unfold Lock.stepAt; rw [if_pos hs]; unfold Lock.take; rw [if_neg (by omega), if_neg (by omega), if_pos hp, HT.out, if_pos rfl])]
    simp [Lock.setP_same, Lock.setT_ps, hs])
  have HS := Lib.hid hs
  have HP := Lib.hid hp
  have HL := Lib.hid h
  have HA := Lib.hid ha
  rw [hs] at c3
  clear h ha ok hs hp hh hA pk ht
  go_enter Try.func14, Try.ntmps14
  go_wp2
  go_region
  all_goals go_wp2
  all_goals
    go_ret2
    unfold RPost
    rw [HR.out]
    refine ⟨rfl, ⟨_, ?_, HA.out.set i 4 _ (by omega) ?_ ?_⟩, (((((Frm.refl _ _).ref 5 (by omega) _ _).ref 0 (by omega) _ _).ref 4 (by omega) _ _).ref 3 (by omega) _ _).drew⟩
    · have := ((((HL.out.setOther i (-1)).setTail i).setAt i 4).setState i 2).setStep i 4
      simp only [Lock.setT_ps, Lock.setT_setP, Lock.setP_same, Lock.setP_setP] at this
      first | exact this | exact this.drew | (simp only [HS.out] at this ⊢; first | exact this | exact this.drew)
    · intro j hj
      simp [Lock.setP, Lock.setT, hj]
    · simp [Lock.setP_same, Lock.setT_ps]

set_option maxRecDepth 100000 in
set_option maxHeartbeats 2000000 in
theorem RStep13b (B C : Nat → Nat) (L : Lock) (A : Nat → Int) (i : Nat) (w : World) (h : IsRef w B C L A) (ha : AtOk L A) (ok : L.Ok) (hi : i < L.n) (hs : (L.ps i).state = 1) (hp : (L.ps i).step = 3) (ht : ¬ L.tail = -1) :
    Calls Try.prog 14 #[.pointer (some ⟨B 0, 0, none⟩), .int .i64 i] w (RPost B C L i w) := by
  have hn := ok.n
  have pk := ok.ps i
  have hA : A i = 3 := by rw [ha.same i (.inl hs), hp]
  obtain ⟨t0, t1, t2, t3, t4, t5, c1, c2, c3, c4, c5⟩ := facts h hi
  rw [hA] at c4
  have d01 := h.apart 0 1 (by omega) (by omega) (by omega)
  have d02 := h.apart 0 2 (by omega) (by omega) (by omega)
  have d03 := h.apart 0 3 (by omega) (by omega) (by omega)
  have d04 := h.apart 0 4 (by omega) (by omega) (by omega)
  have d05 := h.apart 0 5 (by omega) (by omega) (by omega)
  have d10 := h.apart 1 0 (by omega) (by omega) (by omega)
  have d12 := h.apart 1 2 (by omega) (by omega) (by omega)
  have d13 := h.apart 1 3 (by omega) (by omega) (by omega)
  have d14 := h.apart 1 4 (by omega) (by omega) (by omega)
  have d15 := h.apart 1 5 (by omega) (by omega) (by omega)
  have d20 := h.apart 2 0 (by omega) (by omega) (by omega)
  have d21 := h.apart 2 1 (by omega) (by omega) (by omega)
  have d23 := h.apart 2 3 (by omega) (by omega) (by omega)
  have d24 := h.apart 2 4 (by omega) (by omega) (by omega)
  have d25 := h.apart 2 5 (by omega) (by omega) (by omega)
  have d30 := h.apart 3 0 (by omega) (by omega) (by omega)
  have d31 := h.apart 3 1 (by omega) (by omega) (by omega)
  have d32 := h.apart 3 2 (by omega) (by omega) (by omega)
  have d34 := h.apart 3 4 (by omega) (by omega) (by omega)
  have d35 := h.apart 3 5 (by omega) (by omega) (by omega)
  have d40 := h.apart 4 0 (by omega) (by omega) (by omega)
  have d41 := h.apart 4 1 (by omega) (by omega) (by omega)
  have d42 := h.apart 4 2 (by omega) (by omega) (by omega)
  have d43 := h.apart 4 3 (by omega) (by omega) (by omega)
  have d45 := h.apart 4 5 (by omega) (by omega) (by omega)
  have d50 := h.apart 5 0 (by omega) (by omega) (by omega)
  have d51 := h.apart 5 1 (by omega) (by omega) (by omega)
  have d52 := h.apart 5 2 (by omega) (by omega) (by omega)
  have d53 := h.apart 5 3 (by omega) (by omega) (by omega)
  have d54 := h.apart 5 4 (by omega) (by omega) (by omega)
  have fz1 : ∀ o, w.frozen? ⟨B 1, o, none⟩ = false := (h.rows 1 (by omega) (by omega)).frozen
  have fz2 : ∀ o, w.frozen? ⟨B 2, o, none⟩ = false := (h.rows 2 (by omega) (by omega)).frozen
  have fz3 : ∀ o, w.frozen? ⟨B 3, o, none⟩ = false := (h.rows 3 (by omega) (by omega)).frozen
  have fz4 : ∀ o, w.frozen? ⟨B 4, o, none⟩ = false := (h.rows 4 (by omega) (by omega)).frozen
  have fz5 : ∀ o, w.frozen? ⟨B 5, o, none⟩ = false := (h.rows 5 (by omega) (by omega)).frozen
  have fz0 : ∀ o, w.frozen? ⟨B 0, o, none⟩ = false := h.top.frozen
  have ht' : (L.tail == -1) = false := by simpa using ht
  have HT := Lib.hid ht
  have hh : L.has i = true := Lock.has_iff.2 ⟨by omega, by omega⟩
  have HR := Lib.hid (show L.step i = (false, 0, (L.setP i { L.ps i with other := L.tail, step := 4 }).setT i) by
    rw [step_of hh hs (by omega) (show L.stepAt i = (L.setP i { L.ps i with other := L.tail, step := 4 }).setT i from by unfold Lock.stepAt; rw [if_pos hs]; unfold Lock.take; rw [if_neg (by omega), if_neg (by omega), if_pos hp, if_neg HT.out])]
    simp [Lock.setP_same, Lock.setT_ps, hs])
  have HS := Lib.hid hs
  have HP := Lib.hid hp
  have HL := Lib.hid h
  have HA := Lib.hid ha
  rw [hs] at c3
  clear h ha ok hs hp hh hA pk ht
  go_enter Try.func14, Try.ntmps14
  go_wp2
  go_region
  all_goals go_wp2
  all_goals
    go_ret2
    unfold RPost
    rw [HR.out]
    refine ⟨rfl, ⟨_, ?_, HA.out.set i 4 _ (by omega) ?_ ?_⟩, (((((Frm.refl _ _).ref 5 (by omega) _ _).ref 0 (by omega) _ _).ref 4 (by omega) _ _).ref 3 (by omega) _ _).drew⟩
    · have := ((((HL.out.setOther i L.tail).setTail i).setAt i 4).setState i 1).setStep i 4
      simp only [Lock.setT_ps, Lock.setT_setP, Lock.setP_same, Lock.setP_setP] at this
      first | exact this | exact this.drew | (simp only [HS.out] at this ⊢; first | exact this | exact this.drew)
    · intro j hj
      simp [Lock.setP, Lock.setT, hj]
    · simp [Lock.setP_same, Lock.setT_ps]
end Go.Proofs.Ythhcmilijiccmaa
