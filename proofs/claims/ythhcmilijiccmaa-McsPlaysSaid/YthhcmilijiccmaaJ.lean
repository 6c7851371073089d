/- The document's answer for the lock (package pinfoldref29): the contract of Step, continued. No condition. -/
import Derived.Test.YthhcmilijiccmaaH
namespace Go.Proofs.Ythhcmilijiccmaa
open Go.RowKit

set_option maxRecDepth 100000 in
set_option maxHeartbeats 2000000 in
theorem RStep31b (B C : Nat → Nat) (L : Lock) (A : Nat → Int) (i : Nat) (w : World) (h : IsRef w B C L A) (ha : AtOk L A) (ok : L.Ok) (hi : i < L.n) (hs : (L.ps i).state = 3) (hp : (L.ps i).step = 1) (hx : ¬ (L.ps i).next = -1) :
    Calls Try.prog 14 #[.pointer (some ⟨B 0, 0, none⟩), .int .i64 i] w (RPost B C L i w) := by
  have hn := ok.n
  have pk := ok.ps i
  have hA : A i = 1 := by rw [ha.same i (.inr hs), hp]
  obtain ⟨t0, t1, t2, t3, t4, t5, c1, c2, c3, c4, c5⟩ := facts h hi
  rw [hA] at c4
  have d01 := h.apart 0 1 (by omega) (by omega) (by omega)
  have d02 := h.apart 0 2 (by omega) (by omega) (by omega)
  have d03 := h.apart 0 3 (by omega) (by omega) (by omega)
  have d04 := h.apart 0 4 (by omega) (by omega) (by omega)
  have d05 := h.apart 0 5 (by omega) (by omega) (by omega)
  have d10 := h.apart 1 0 (by omega) (by omega) (by omega)
  have d12 := h.apart 1 2 (by omega) (by omega) (by omega)
  have d13 := h.apart 1 3 (by omega) (by omega) (by omega)
  have d14 := h.apart 1 4 (by omega) (by omega) (by omega)
  have d15 := h.apart 1 5 (by omega) (by omega) (by omega)
  have d20 := h.apart 2 0 (by omega) (by omega) (by omega)
  have d21 := h.apart 2 1 (by omega) (by omega) (by omega)
  have d23 := h.apart 2 3 (by omega) (by omega) (by omega)
  have d24 := h.apart 2 4 (by omega) (by omega) (by omega)
  have d25 := h.apart 2 5 (by omega) (by omega) (by omega)
  have d30 := h.apart 3 0 (by omega) (by omega) (by omega)
  have d31 := h.apart 3 1 (by omega) (by omega) (by omega)
  have d32 := h.apart 3 2 (by omega) (by omega) (by omega)
  have d34 := h.apart 3 4 (by omega) (by omega) (by omega)
  have d35 := h.apart 3 5 (by omega) (by omega) (by omega)
  have d40 := h.apart 4 0 (by omega) (by omega) (by omega)
  have d41 := h.apart 4 1 (by omega) (by omega) (by omega)
  have d42 := h.apart 4 2 (by omega) (by omega) (by omega)
  have d43 := h.apart 4 3 (by omega) (by omega) (by omega)
  have d45 := h.apart 4 5 (by omega) (by omega) (by omega)
  have d50 := h.apart 5 0 (by omega) (by omega) (by omega)
  have d51 := h.apart 5 1 (by omega) (by omega) (by omega)
  have d52 := h.apart 5 2 (by omega) (by omega) (by omega)
  have d53 := h.apart 5 3 (by omega) (by omega) (by omega)
  have d54 := h.apart 5 4 (by omega) (by omega) (by omega)
  have fz1 : ∀ o, w.frozen? ⟨B 1, o, none⟩ = false := (h.rows 1 (by omega) (by omega)).frozen
  have fz2 : ∀ o, w.frozen? ⟨B 2, o, none⟩ = false := (h.rows 2 (by omega) (by omega)).frozen
  have fz3 : ∀ o, w.frozen? ⟨B 3, o, none⟩ = false := (h.rows 3 (by omega) (by omega)).frozen
  have fz4 : ∀ o, w.frozen? ⟨B 4, o, none⟩ = false := (h.rows 4 (by omega) (by omega)).frozen
  have fz5 : ∀ o, w.frozen? ⟨B 5, o, none⟩ = false := (h.rows 5 (by omega) (by omega)).frozen
  have fz0 : ∀ o, w.frozen? ⟨B 0, o, none⟩ = false := h.top.frozen
  have HX := Lib.hid hx
  have hx' : ((L.ps i).next != -1) = true := by simpa using hx
  have hh : L.has i = true := Lock.has_iff.2 ⟨by omega, by omega⟩
  have HR := Lib.hid (show L.step i = (false, 0, L.setP i { L.ps i with other := (L.ps i).next, step := 3 }) by
    rw [step_of hh hs (by omega) (show L.stepAt i = L.setP i { L.ps i with other := (L.ps i).next, step := 3 } from by unfold Lock.stepAt; rw [if_neg (by omega), if_pos hs]; unfold Lock.give; rw [if_pos hp, if_neg HX.out])]
    simp [Lock.setP_same, Lock.setT_ps, hs])
  have HS := Lib.hid hs
  have HP := Lib.hid hp
  have HL := Lib.hid h
  have HA := Lib.hid ha
  rw [hs] at c3
  clear h ha ok hs hp hh hA pk hx
  go_enter Try.func14, Try.ntmps14
  go_wp2
  go_region
  all_goals go_wp2
  all_goals
    go_ret2
    unfold RPost
    rw [HR.out]
    refine ⟨rfl, ⟨_, ?_, HA.out.set i 3 _ (by omega) ?_ ?_⟩, ((((Frm.refl _ _).ref 5 (by omega) _ _).ref 4 (by omega) _ _).ref 3 (by omega) _ _).drew⟩
    · have := (((HL.out.setOther i (L.ps i).next).setAt i 3).setState i 3).setStep i 3
      simp only [Lock.setT_ps, Lock.setT_setP, Lock.setP_same, Lock.setP_setP] at this
      first | exact this | exact this.drew | (simp only [HS.out] at this ⊢; first | exact this | exact this.drew)
    · intro j hj
      simp [Lock.setP, Lock.setT, hj]
    · simp [Lock.setP_same, Lock.setT_ps]

set_option maxRecDepth 100000 in
set_option maxHeartbeats 2000000 in
theorem RStep32a (B C : Nat → Nat) (L : Lock) (A : Nat → Int) (i : Nat) (w : World) (h : IsRef w B C L A) (ha : AtOk L A) (ok : L.Ok) (hi : i < L.n) (hs : (L.ps i).state = 3) (hp : (L.ps i).step = 2) (ht : L.tail = i) :
    Calls Try.prog 14 #[.pointer (some ⟨B 0, 0, none⟩), .int .i64 i] w (RPost B C L i w) := by
  have hn := ok.n
  have pk := ok.ps i
  have hA : A i = 2 := by rw [ha.same i (.inr hs), hp]
  obtain ⟨t0, t1, t2, t3, t4, t5, c1, c2, c3, c4, c5⟩ := facts h hi
  rw [hA] at c4
  have d01 := h.apart 0 1 (by omega) (by omega) (by omega)
  have d02 := h.apart 0 2 (by omega) (by omega) (by omega)
  have d03 := h.apart 0 3 (by omega) (by omega) (by omega)
  have d04 := h.apart 0 4 (by omega) (by omega) (by omega)
  have d05 := h.apart 0 5 (by omega) (by omega) (by omega)
  have d10 := h.apart 1 0 (by omega) (by omega) (by omega)
  have d12 := h.apart 1 2 (by omega) (by omega) (by omega)
  have d13 := h.apart 1 3 (by omega) (by omega) (by omega)
  have d14 := h.apart 1 4 (by omega) (by omega) (by omega)
  have d15 := h.apart 1 5 (by omega) (by omega) (by omega)
  have d20 := h.apart 2 0 (by omega) (by omega) (by omega)
  have d21 := h.apart 2 1 (by omega) (by omega) (by omega)
  have d23 := h.apart 2 3 (by omega) (by omega) (by omega)
  have d24 := h.apart 2 4 (by omega) (by omega) (by omega)
  have d25 := h.apart 2 5 (by omega) (by omega) (by omega)
  have d30 := h.apart 3 0 (by omega) (by omega) (by omega)
  have d31 := h.apart 3 1 (by omega) (by omega) (by omega)
  have d32 := h.apart 3 2 (by omega) (by omega) (by omega)
  have d34 := h.apart 3 4 (by omega) (by omega) (by omega)
  have d35 := h.apart 3 5 (by omega) (by omega) (by omega)
  have d40 := h.apart 4 0 (by omega) (by omega) (by omega)
  have d41 := h.apart 4 1 (by omega) (by omega) (by omega)
  have d42 := h.apart 4 2 (by omega) (by omega) (by omega)
  have d43 := h.apart 4 3 (by omega) (by omega) (by omega)
  have d45 := h.apart 4 5 (by omega) (by omega) (by omega)
  have d50 := h.apart 5 0 (by omega) (by omega) (by omega)
  have d51 := h.apart 5 1 (by omega) (by omega) (by omega)
  have d52 := h.apart 5 2 (by omega) (by omega) (by omega)
  have d53 := h.apart 5 3 (by omega) (by omega) (by omega)
  have d54 := h.apart 5 4 (by omega) (by omega) (by omega)
  have fz1 : ∀ o, w.frozen? ⟨B 1, o, none⟩ = false := (h.rows 1 (by omega) (by omega)).frozen
  have fz2 : ∀ o, w.frozen? ⟨B 2, o, none⟩ = false := (h.rows 2 (by omega) (by omega)).frozen
  have fz3 : ∀ o, w.frozen? ⟨B 3, o, none⟩ = false := (h.rows 3 (by omega) (by omega)).frozen
  have fz4 : ∀ o, w.frozen? ⟨B 4, o, none⟩ = false := (h.rows 4 (by omega) (by omega)).frozen
  have fz5 : ∀ o, w.frozen? ⟨B 5, o, none⟩ = false := (h.rows 5 (by omega) (by omega)).frozen
  have fz0 : ∀ o, w.frozen? ⟨B 0, o, none⟩ = false := h.top.frozen
  have HT := Lib.hid ht
  rw [ht] at t0
  have hh : L.has i = true := Lock.has_iff.2 ⟨by omega, by omega⟩
  have HR := Lib.hid (show L.step i = (true, 0, (L.setP i { L.ps i with step := 1, state := 0 }).setT (-1)) by
    rw [step_of hh hs (by omega) (show L.stepAt i = (L.setP i { L.ps i with step := 1, state := 0 }).setT (-1) from by unfold Lock.stepAt; rw [if_neg (by omega), if_pos hs]; unfold Lock.give; rw [if_neg (by omega), if_pos hp, if_pos HT.out])]
    simp [Lock.setP_same, Lock.setT_ps, hs])
  have HS := Lib.hid hs
  have HP := Lib.hid hp
  have HL := Lib.hid h
  have HA := Lib.hid ha
  rw [hs] at c3
  clear h ha ok hs hp hh hA pk ht
  go_enter Try.func14, Try.ntmps14
  go_wp2
  go_wp2_with fail
  all_goals
    go_ret2
    unfold RPost
    rw [HR.out]
    refine ⟨rfl, ⟨_, ?_, HA.out.set i 1 _ (by omega) ?_ ?_⟩, ((((Frm.refl _ _).ref 0 (by omega) _ _).ref 4 (by omega) _ _).ref 3 (by omega) _ _)⟩
    · have := (((HL.out.setTail (-1)).setAt i 1).setState i 0).setStep i 1
      simp only [Lock.setT_ps, Lock.setT_setP, Lock.setP_same, Lock.setP_setP] at this
      first | exact this | exact this.drew | (simp only [HS.out] at this ⊢; first | exact this | exact this.drew)
    · intro j hj
      simp [Lock.setP, Lock.setT, hj]
    · simp [Lock.setP_same, Lock.setT_ps]

set_option maxRecDepth 100000 in
set_option maxHeartbeats 2000000 in
theorem RStep32b (B C : Nat → Nat) (L : Lock) (A : Nat → Int) (i : Nat) (w : World) (h : IsRef w B C L A) (ha : AtOk L A) (ok : L.Ok) (hi : i < L.n) (hs : (L.ps i).state = 3) (hp : (L.ps i).step = 2) (ht : ¬ L.tail = i) :
    Calls Try.prog 14 #[.pointer (some ⟨B 0, 0, none⟩), .int .i64 i] w (RPost B C L i w) := by
  have hn := ok.n
  have pk := ok.ps i
  have hA : A i = 2 := by rw [ha.same i (.inr hs), hp]
  obtain ⟨t0, t1, t2, t3, t4, t5, c1, c2, c3, c4, c5⟩ := facts h hi
  rw [hA] at c4
  have d01 := h.apart 0 1 (by omega) (by omega) (by omega)
  have d02 := h.apart 0 2 (by omega) (by omega) (by omega)
  have d03 := h.apart 0 3 (by omega) (by omega) (by omega)
  have d04 := h.apart 0 4 (by omega) (by omega) (by omega)
  have d05 := h.apart 0 5 (by omega) (by omega) (by omega)
  have d10 := h.apart 1 0 (by omega) (by omega) (by omega)
  have d12 := h.apart 1 2 (by omega) (by omega) (by omega)
  have d13 := h.apart 1 3 (by omega) (by omega) (by omega)
  have d14 := h.apart 1 4 (by omega) (by omega) (by omega)
  have d15 := h.apart 1 5 (by omega) (by omega) (by omega)
  have d20 := h.apart 2 0 (by omega) (by omega) (by omega)
  have d21 := h.apart 2 1 (by omega) (by omega) (by omega)
  have d23 := h.apart 2 3 (by omega) (by omega) (by omega)
  have d24 := h.apart 2 4 (by omega) (by omega) (by omega)
  have d25 := h.apart 2 5 (by omega) (by omega) (by omega)
  have d30 := h.apart 3 0 (by omega) (by omega) (by omega)
  have d31 := h.apart 3 1 (by omega) (by omega) (by omega)
  have d32 := h.apart 3 2 (by omega) (by omega) (by omega)
  have d34 := h.apart 3 4 (by omega) (by omega) (by omega)
  have d35 := h.apart 3 5 (by omega) (by omega) (by omega)
  have d40 := h.apart 4 0 (by omega) (by omega) (by omega)
  have d41 := h.apart 4 1 (by omega) (by omega) (by omega)
  have d42 := h.apart 4 2 (by omega) (by omega) (by omega)
  have d43 := h.apart 4 3 (by omega) (by omega) (by omega)
  have d45 := h.apart 4 5 (by omega) (by omega) (by omega)
  have d50 := h.apart 5 0 (by omega) (by omega) (by omega)
  have d51 := h.apart 5 1 (by omega) (by omega) (by omega)
  have d52 := h.apart 5 2 (by omega) (by omega) (by omega)
  have d53 := h.apart 5 3 (by omega) (by omega) (by omega)
  have d54 := h.apart 5 4 (by omega) (by omega) (by omega)
  have fz1 : ∀ o, w.frozen? ⟨B 1, o, none⟩ = false := (h.rows 1 (by omega) (by omega)).frozen
  have fz2 : ∀ o, w.frozen? ⟨B 2, o, none⟩ = false := (h.rows 2 (by omega) (by omega)).frozen
  have fz3 : ∀ o, w.frozen? ⟨B 3, o, none⟩ = false := (h.rows 3 (by omega) (by omega)).frozen
  have fz4 : ∀ o, w.frozen? ⟨B 4, o, none⟩ = false := (h.rows 4 (by omega) (by omega)).frozen
  have fz5 : ∀ o, w.frozen? ⟨B 5, o, none⟩ = false := (h.rows 5 (by omega) (by omega)).frozen
  have fz0 : ∀ o, w.frozen? ⟨B 0, o, none⟩ = false := h.top.frozen
  have HT := Lib.hid ht
  have ht' : (L.tail == (i : Int)) = false := by simpa using ht
  have hh : L.has i = true := Lock.has_iff.2 ⟨by omega, by omega⟩
  have HR := Lib.hid (show L.step i = (false, 0, L.setP i { L.ps i with step := 1 }) by
    rw [step_of hh hs (by omega) (show L.stepAt i = L.setP i { L.ps i with step := 1 } from by unfold Lock.stepAt; rw [if_neg (by omega), if_pos hs]; unfold Lock.give; rw [if_neg (by omega), if_pos hp, if_neg HT.out])]
    simp [Lock.setP_same, Lock.setT_ps, hs])
  have HS := Lib.hid hs
  have HP := Lib.hid hp
  have HL := Lib.hid h
  have HA := Lib.hid ha
  rw [hs] at c3
  clear h ha ok hs hp hh hA pk ht
  go_enter Try.func14, Try.ntmps14
  go_wp2
  go_wp2_with fail
  all_goals
    go_ret2
    unfold RPost
    rw [HR.out]
    refine ⟨rfl, ⟨_, ?_, HA.out.set i 1 _ (by omega) ?_ ?_⟩, (((Frm.refl _ _).ref 4 (by omega) _ _).ref 3 (by omega) _ _)⟩
    · have := ((HL.out.setAt i 1).setState i 3).setStep i 1
      simp only [Lock.setT_ps, Lock.setT_setP, Lock.setP_same, Lock.setP_setP] at this
      first | exact this | exact this.drew | (simp only [HS.out] at this ⊢; first | exact this | exact this.drew)
    · intro j hj
      simp [Lock.setP, Lock.setT, hj]
    · simp [Lock.setP_same, Lock.setT_ps]

set_option maxRecDepth 100000 in
set_option maxHeartbeats 2000000 in
theorem RStep33 (B C : Nat → Nat) (L : Lock) (A : Nat → Int) (i : Nat) (w : World) (h : IsRef w B C L A) (ha : AtOk L A) (ok : L.Ok) (hi : i < L.n) (hs : (L.ps i).state = 3) (hp : (L.ps i).step = 3) :
    Calls Try.prog 14 #[.pointer (some ⟨B 0, 0, none⟩), .int .i64 i] w (RPost B C L i w) := by
  have hn := ok.n
  have pk := ok.ps i
  have hA : A i = 3 := by rw [ha.same i (.inr hs), hp]
  obtain ⟨t0, t1, t2, t3, t4, t5, c1, c2, c3, c4, c5⟩ := facts h hi
  rw [hA] at c4
  have d01 := h.apart 0 1 (by omega) (by omega) (by omega)
  have d02 := h.apart 0 2 (by omega) (by omega) (by omega)
  have d03 := h.apart 0 3 (by omega) (by omega) (by omega)
  have d04 := h.apart 0 4 (by omega) (by omega) (by omega)
  have d05 := h.apart 0 5 (by omega) (by omega) (by omega)
  have d10 := h.apart 1 0 (by omega) (by omega) (by omega)
  have d12 := h.apart 1 2 (by omega) (by omega) (by omega)
  have d13 := h.apart 1 3 (by omega) (by omega) (by omega)
  have d14 := h.apart 1 4 (by omega) (by omega) (by omega)
  have d15 := h.apart 1 5 (by omega) (by omega) (by omega)
  have d20 := h.apart 2 0 (by omega) (by omega) (by omega)
  have d21 := h.apart 2 1 (by omega) (by omega) (by omega)
  have d23 := h.apart 2 3 (by omega) (by omega) (by omega)
  have d24 := h.apart 2 4 (by omega) (by omega) (by omega)
  have d25 := h.apart 2 5 (by omega) (by omega) (by omega)
  have d30 := h.apart 3 0 (by omega) (by omega) (by omega)
  have d31 := h.apart 3 1 (by omega) (by omega) (by omega)
  have d32 := h.apart 3 2 (by omega) (by omega) (by omega)
  have d34 := h.apart 3 4 (by omega) (by omega) (by omega)
  have d35 := h.apart 3 5 (by omega) (by omega) (by omega)
  have d40 := h.apart 4 0 (by omega) (by omega) (by omega)
  have d41 := h.apart 4 1 (by omega) (by omega) (by omega)
  have d42 := h.apart 4 2 (by omega) (by omega) (by omega)
  have d43 := h.apart 4 3 (by omega) (by omega) (by omega)
  have d45 := h.apart 4 5 (by omega) (by omega) (by omega)
  have d50 := h.apart 5 0 (by omega) (by omega) (by omega)
  have d51 := h.apart 5 1 (by omega) (by omega) (by omega)
  have d52 := h.apart 5 2 (by omega) (by omega) (by omega)
  have d53 := h.apart 5 3 (by omega) (by omega) (by omega)
  have d54 := h.apart 5 4 (by omega) (by omega) (by omega)
  have fz1 : ∀ o, w.frozen? ⟨B 1, o, none⟩ = false := (h.rows 1 (by omega) (by omega)).frozen
  have fz2 : ∀ o, w.frozen? ⟨B 2, o, none⟩ = false := (h.rows 2 (by omega) (by omega)).frozen
  have fz3 : ∀ o, w.frozen? ⟨B 3, o, none⟩ = false := (h.rows 3 (by omega) (by omega)).frozen
  have fz4 : ∀ o, w.frozen? ⟨B 4, o, none⟩ = false := (h.rows 4 (by omega) (by omega)).frozen
  have fz5 : ∀ o, w.frozen? ⟨B 5, o, none⟩ = false := (h.rows 5 (by omega) (by omega)).frozen
  have fz0 : ∀ o, w.frozen? ⟨B 0, o, none⟩ = false := h.top.frozen
  have hl := pk.wake hs hp
  have ho := pk.other
  obtain ⟨o, hoe⟩ : ∃ o : Nat, (L.ps i).other = o := ⟨(L.ps i).other.toNat, by omega⟩
  have hoi : o < L.n := by omega
  have HO := Lib.hid hoe
  rw [hoe] at c5
  obtain ⟨-, -, -, -, -, -, o1, o2, -, -, -⟩ := facts h hoi
  have HS2 := Lib.hid (show ((L.setP o { L.ps o with waits := false }).ps i).state = 3 from (waits_state L o i _).trans hs)
  have HP2 := Lib.hid (show ((L.setP o { L.ps o with waits := false }).ps i).step = 3 from (waits_step L o i _).trans hp)
  have hh : L.has i = true := Lock.has_iff.2 ⟨by omega, by omega⟩
  have HR := Lib.hid (show L.step i = (true, 0, (L.setP o { L.ps o with waits := false }).setP i { (L.setP o { L.ps o with waits := false }).ps i with state := 0 }) by
    rw [step_of hh hs (by omega) (show L.stepAt i = (L.setP o { L.ps o with waits := false }).setP i { (L.setP o { L.ps o with waits := false }).ps i with state := 0 } from by unfold Lock.stepAt; rw [if_neg (by omega), if_pos hs]; unfold Lock.give; rw [if_neg (by omega), if_neg (by omega), hoe, Int.toNat_natCast])]
    rw [Lock.setP_same]; rfl)
  have HS := Lib.hid hs
  have HP := Lib.hid hp
  have HL := Lib.hid h
  have HA := Lib.hid ha
  rw [hs] at c3
  clear h ha ok hs hp hh hA pk hl ho hoe
  go_enter Try.func14, Try.ntmps14
  go_wp2
  go_region
  all_goals go_wp2
  all_goals
    go_ret2
    unfold RPost
    rw [HR.out]
    refine ⟨rfl, ⟨_, ?_, HA.out.set i 4 _ (by omega) ?_ ?_⟩, ((((Frm.refl _ _).ref 2 (by omega) _ _).ref 4 (by omega) _ _).ref 3 (by omega) _ _).drew⟩
    · have := ((HL.out.setWaits o false).setAt i 4).setState i 0
      simp only [Lock.setT_ps, Lock.setT_setP, Lock.setP_same, Lock.setP_setP] at this
      first | exact this | exact this.drew | (simp only [HS.out] at this ⊢; first | exact this | exact this.drew)
    · intro j hj
      rw [Lock.setP_other _ _ hj]; exact ⟨waits_state L o j _, waits_step L o j _⟩
    · simp [Lock.setP_same, Lock.setT_ps]
end Go.Proofs.Ythhcmilijiccmaa
