/- The document's answer for the lock (package pinfoldref29): the contract of Step, continued. No condition. -/
import Derived.Test.YthhcmilijiccmaaH
namespace Go.Proofs.Ythhcmilijiccmaa
open Go.RowKit

set_option maxRecDepth 100000 in
set_option maxHeartbeats 2000000 in
theorem RStep14 (B C : Nat → Nat) (L : Lock) (A : Nat → Int) (i : Nat) (w : World) (h : IsRef w B C L A) (ha : AtOk L A) (ok : L.Ok) (hi : i < L.n) (hs : (L.ps i).state = 1) (hp : (L.ps i).step = 4) :
    Calls Try.prog 14 #[.pointer (some ⟨B 0, 0, none⟩), .int .i64 i] w (RPost B C L i w) := by
  have hn := ok.n
  have pk := ok.ps i
  have hA : A i = 4 := by rw [ha.same i (.inl hs), hp]
  obtain ⟨t0, t1, t2, t3, t4, t5, c1, c2, c3, c4, c5⟩ := facts h hi
  rw [hA] at c4
  have d01 := h.apart 0 1 (by omega) (by omega) (by omega)
  have d02 := h.apart 0 2 (by omega) (by omega) (by omega)
  have d03 := h.apart 0 3 (by omega) (by omega) (by omega)
  have d04 := h.apart 0 4 (by omega) (by omega) (by omega)
  have d05 := h.apart 0 5 (by omega) (by omega) (by omega)
  have d10 := h.apart 1 0 (by omega) (by omega) (by omega)
  have d12 := h.apart 1 2 (by omega) (by omega) (by omega)
  have d13 := h.apart 1 3 (by omega) (by omega) (by omega)
  have d14 := h.apart 1 4 (by omega) (by omega) (by omega)
  have d15 := h.apart 1 5 (by omega) (by omega) (by omega)
  have d20 := h.apart 2 0 (by omega) (by omega) (by omega)
  have d21 := h.apart 2 1 (by omega) (by omega) (by omega)
  have d23 := h.apart 2 3 (by omega) (by omega) (by omega)
  have d24 := h.apart 2 4 (by omega) (by omega) (by omega)
  have d25 := h.apart 2 5 (by omega) (by omega) (by omega)
  have d30 := h.apart 3 0 (by omega) (by omega) (by omega)
  have d31 := h.apart 3 1 (by omega) (by omega) (by omega)
  have d32 := h.apart 3 2 (by omega) (by omega) (by omega)
  have d34 := h.apart 3 4 (by omega) (by omega) (by omega)
  have d35 := h.apart 3 5 (by omega) (by omega) (by omega)
  have d40 := h.apart 4 0 (by omega) (by omega) (by omega)
  have d41 := h.apart 4 1 (by omega) (by omega) (by omega)
  have d42 := h.apart 4 2 (by omega) (by omega) (by omega)
  have d43 := h.apart 4 3 (by omega) (by omega) (by omega)
  have d45 := h.apart 4 5 (by omega) (by omega) (by omega)
  have d50 := h.apart 5 0 (by omega) (by omega) (by omega)
  have d51 := h.apart 5 1 (by omega) (by omega) (by omega)
  have d52 := h.apart 5 2 (by omega) (by omega) (by omega)
  have d53 := h.apart 5 3 (by omega) (by omega) (by omega)
  have d54 := h.apart 5 4 (by omega) (by omega) (by omega)
  have fz1 : ∀ o, w.frozen? ⟨B 1, o, none⟩ = false := (h.rows 1 (by omega) (by omega)).frozen
  have fz2 : ∀ o, w.frozen? ⟨B 2, o, none⟩ = false := (h.rows 2 (by omega) (by omega)).frozen
  have fz3 : ∀ o, w.frozen? ⟨B 3, o, none⟩ = false := (h.rows 3 (by omega) (by omega)).frozen
  have fz4 : ∀ o, w.frozen? ⟨B 4, o, none⟩ = false := (h.rows 4 (by omega) (by omega)).frozen
  have fz5 : ∀ o, w.frozen? ⟨B 5, o, none⟩ = false := (h.rows 5 (by omega) (by omega)).frozen
  have fz0 : ∀ o, w.frozen? ⟨B 0, o, none⟩ = false := h.top.frozen
  have hl := pk.link hs hp
  have ho := pk.other
  obtain ⟨o, hoe⟩ : ∃ o : Nat, (L.ps i).other = o := ⟨(L.ps i).other.toNat, by omega⟩
  have hoi : o < L.n := by omega
  have HO := Lib.hid hoe
  rw [hoe] at c5
  obtain ⟨-, -, -, -, -, -, o1, o2, -, -, -⟩ := facts h hoi
  have HS2 := Lib.hid (show ((L.setP o { L.ps o with next := (i : Int) }).ps i).state = 1 from (next_state L o i _).trans hs)
  have HP2 := Lib.hid (show ((L.setP o { L.ps o with next := (i : Int) }).ps i).step = 4 from (next_step L o i _).trans hp)
  have hh : L.has i = true := Lock.has_iff.2 ⟨by omega, by omega⟩
  have HR := Lib.hid (show L.step i = (false, 0, (L.setP o { L.ps o with next := (i : Int) }).setP i { (L.setP o { L.ps o with next := (i : Int) }).ps i with step := 5 }) by
    rw [step_of hh hs (by omega) (show L.stepAt i = (L.setP o { L.ps o with next := (i : Int) }).setP i { (L.setP o { L.ps o with next := (i : Int) }).ps i with step := 5 } from by unfold Lock.stepAt; rw [if_pos hs]; unfold Lock.take; rw [if_neg (by omega), if_neg (by omega), if_neg (by omega), if_pos hp, hoe, Int.toNat_natCast])]
    rw [Lock.setP_same, HS2.out]; rfl)
  have HS := Lib.hid hs
  have HP := Lib.hid hp
  have HL := Lib.hid h
  have HA := Lib.hid ha
  rw [hs] at c3
  clear h ha ok hs hp hh hA pk hl ho hoe
  go_enter Try.func14, Try.ntmps14
  go_wp2
  go_region
  all_goals go_wp2
  all_goals
    go_ret2
    unfold RPost
    rw [HR.out]
    refine ⟨rfl, ⟨_, ?_, HA.out.set i 5 _ (by omega) ?_ ?_⟩, ((((Frm.refl _ _).ref 1 (by omega) _ _).ref 4 (by omega) _ _).ref 3 (by omega) _ _).drew⟩
    · have := (((HL.out.setNext o i).setAt i 5).setState i 1).setStep i 5
      simp only [Lock.setT_ps, Lock.setT_setP, Lock.setP_same, Lock.setP_setP] at this
      simp only [HS2.out] at this ⊢
      first | exact this | exact this.drew | (simp only [HS.out] at this ⊢; first | exact this | exact this.drew)
    · intro j hj
      rw [Lock.setP_other _ _ hj]; exact ⟨next_state L o j _, next_step L o j _⟩
    · simp [Lock.setP_same, Lock.setT_ps]

set_option maxRecDepth 100000 in
set_option maxHeartbeats 2000000 in
theorem RStep15a (B C : Nat → Nat) (L : Lock) (A : Nat → Int) (i : Nat) (w : World) (h : IsRef w B C L A) (ha : AtOk L A) (ok : L.Ok) (hi : i < L.n) (hs : (L.ps i).state = 1) (hp : (L.ps i).step = 5) (hw : (L.ps i).waits = false) :
    Calls Try.prog 14 #[.pointer (some ⟨B 0, 0, none⟩), .int .i64 i] w (RPost B C L i w) := by
  have hn := ok.n
  have pk := ok.ps i
  have hA : A i = 5 := by rw [ha.same i (.inl hs), hp]
  obtain ⟨t0, t1, t2, t3, t4, t5, c1, c2, c3, c4, c5⟩ := facts h hi
  rw [hA] at c4
  have d01 := h.apart 0 1 (by omega) (by omega) (by omega)
  have d02 := h.apart 0 2 (by omega) (by omega) (by omega)
  have d03 := h.apart 0 3 (by omega) (by omega) (by omega)
  have d04 := h.apart 0 4 (by omega) (by omega) (by omega)
  have d05 := h.apart 0 5 (by omega) (by omega) (by omega)
  have d10 := h.apart 1 0 (by omega) (by omega) (by omega)
  have d12 := h.apart 1 2 (by omega) (by omega) (by omega)
  have d13 := h.apart 1 3 (by omega) (by omega) (by omega)
  have d14 := h.apart 1 4 (by omega) (by omega) (by omega)
  have d15 := h.apart 1 5 (by omega) (by omega) (by omega)
  have d20 := h.apart 2 0 (by omega) (by omega) (by omega)
  have d21 := h.apart 2 1 (by omega) (by omega) (by omega)
  have d23 := h.apart 2 3 (by omega) (by omega) (by omega)
  have d24 := h.apart 2 4 (by omega) (by omega) (by omega)
  have d25 := h.apart 2 5 (by omega) (by omega) (by omega)
  have d30 := h.apart 3 0 (by omega) (by omega) (by omega)
  have d31 := h.apart 3 1 (by omega) (by omega) (by omega)
  have d32 := h.apart 3 2 (by omega) (by omega) (by omega)
  have d34 := h.apart 3 4 (by omega) (by omega) (by omega)
  have d35 := h.apart 3 5 (by omega) (by omega) (by omega)
  have d40 := h.apart 4 0 (by omega) (by omega) (by omega)
  have d41 := h.apart 4 1 (by omega) (by omega) (by omega)
  have d42 := h.apart 4 2 (by omega) (by omega) (by omega)
  have d43 := h.apart 4 3 (by omega) (by omega) (by omega)
  have d45 := h.apart 4 5 (by omega) (by omega) (by omega)
  have d50 := h.apart 5 0 (by omega) (by omega) (by omega)
  have d51 := h.apart 5 1 (by omega) (by omega) (by omega)
  have d52 := h.apart 5 2 (by omega) (by omega) (by omega)
  have d53 := h.apart 5 3 (by omega) (by omega) (by omega)
  have d54 := h.apart 5 4 (by omega) (by omega) (by omega)
  have fz1 : ∀ o, w.frozen? ⟨B 1, o, none⟩ = false := (h.rows 1 (by omega) (by omega)).frozen
  have fz2 : ∀ o, w.frozen? ⟨B 2, o, none⟩ = false := (h.rows 2 (by omega) (by omega)).frozen
  have fz3 : ∀ o, w.frozen? ⟨B 3, o, none⟩ = false := (h.rows 3 (by omega) (by omega)).frozen
  have fz4 : ∀ o, w.frozen? ⟨B 4, o, none⟩ = false := (h.rows 4 (by omega) (by omega)).frozen
  have fz5 : ∀ o, w.frozen? ⟨B 5, o, none⟩ = false := (h.rows 5 (by omega) (by omega)).frozen
  have fz0 : ∀ o, w.frozen? ⟨B 0, o, none⟩ = false := h.top.frozen
  have HW := Lib.hid hw
  rw [hw] at c2
  have hh : L.has i = true := Lock.has_iff.2 ⟨by omega, by omega⟩
  have HR := Lib.hid (show L.step i = (true, 0, L.setP i { L.ps i with state := 2, step := (L.ps i).step + 1 }) by
    rw [step_of hh hs (by omega) (show L.stepAt i = L.setP i { L.ps i with state := 2, step := (L.ps i).step + 1 } from by unfold Lock.stepAt; rw [if_pos hs]; unfold Lock.take; rw [if_neg (by omega), if_neg (by omega), if_neg (by omega), if_neg (by omega), HW.out, if_neg (by simp)])]
    simp [Lock.setP_same, Lock.setT_ps, hs])
  have HS := Lib.hid hs
  have HP := Lib.hid hp
  have HL := Lib.hid h
  have HA := Lib.hid ha
  rw [hs] at c3
  clear h ha ok hs hp hh hA pk hw
  go_enter Try.func14, Try.ntmps14
  go_wp2
  go_wp2_with fail
  all_goals
    go_ret2
    unfold RPost
    rw [HR.out]
    refine ⟨rfl, ⟨_, ?_, HA.out.set i 5 _ (by omega) ?_ ?_⟩, (((Frm.refl _ _).ref 4 (by omega) _ _).ref 3 (by omega) _ _)⟩
    · have := ((HL.out.setAt i 5).setState i 2).setStep i 6
      simp only [Lock.setT_ps, Lock.setT_setP, Lock.setP_same, Lock.setP_setP] at this
      simp only [HP.out] at this ⊢
      first | exact this | exact this.drew | (simp only [HS.out] at this ⊢; first | exact this | exact this.drew)
    · intro j hj
      simp [Lock.setP, Lock.setT, hj]
    · simp [Lock.setP_same, Lock.setT_ps]

set_option maxRecDepth 100000 in
set_option maxHeartbeats 2000000 in
theorem RStep15b (B C : Nat → Nat) (L : Lock) (A : Nat → Int) (i : Nat) (w : World) (h : IsRef w B C L A) (ha : AtOk L A) (ok : L.Ok) (hi : i < L.n) (hs : (L.ps i).state = 1) (hp : (L.ps i).step = 5) (hw : (L.ps i).waits = true) :
    Calls Try.prog 14 #[.pointer (some ⟨B 0, 0, none⟩), .int .i64 i] w (RPost B C L i w) := by
  have hn := ok.n
  have pk := ok.ps i
  have hA : A i = 5 := by rw [ha.same i (.inl hs), hp]
  obtain ⟨t0, t1, t2, t3, t4, t5, c1, c2, c3, c4, c5⟩ := facts h hi
  rw [hA] at c4
  have d01 := h.apart 0 1 (by omega) (by omega) (by omega)
  have d02 := h.apart 0 2 (by omega) (by omega) (by omega)
  have d03 := h.apart 0 3 (by omega) (by omega) (by omega)
  have d04 := h.apart 0 4 (by omega) (by omega) (by omega)
  have d05 := h.apart 0 5 (by omega) (by omega) (by omega)
  have d10 := h.apart 1 0 (by omega) (by omega) (by omega)
  have d12 := h.apart 1 2 (by omega) (by omega) (by omega)
  have d13 := h.apart 1 3 (by omega) (by omega) (by omega)
  have d14 := h.apart 1 4 (by omega) (by omega) (by omega)
  have d15 := h.apart 1 5 (by omega) (by omega) (by omega)
  have d20 := h.apart 2 0 (by omega) (by omega) (by omega)
  have d21 := h.apart 2 1 (by omega) (by omega) (by omega)
  have d23 := h.apart 2 3 (by omega) (by omega) (by omega)
  have d24 := h.apart 2 4 (by omega) (by omega) (by omega)
  have d25 := h.apart 2 5 (by omega) (by omega) (by omega)
  have d30 := h.apart 3 0 (by omega) (by omega) (by omega)
  have d31 := h.apart 3 1 (by omega) (by omega) (by omega)
  have d32 := h.apart 3 2 (by omega) (by omega) (by omega)
  have d34 := h.apart 3 4 (by omega) (by omega) (by omega)
  have d35 := h.apart 3 5 (by omega) (by omega) (by omega)
  have d40 := h.apart 4 0 (by omega) (by omega) (by omega)
  have d41 := h.apart 4 1 (by omega) (by omega) (by omega)
  have d42 := h.apart 4 2 (by omega) (by omega) (by omega)
  have d43 := h.apart 4 3 (by omega) (by omega) (by omega)
  have d45 := h.apart 4 5 (by omega) (by omega) (by omega)
  have d50 := h.apart 5 0 (by omega) (by omega) (by omega)
  have d51 := h.apart 5 1 (by omega) (by omega) (by omega)
  have d52 := h.apart 5 2 (by omega) (by omega) (by omega)
  have d53 := h.apart 5 3 (by omega) (by omega) (by omega)
  have d54 := h.apart 5 4 (by omega) (by omega) (by omega)
  have fz1 : ∀ o, w.frozen? ⟨B 1, o, none⟩ = false := (h.rows 1 (by omega) (by omega)).frozen
  have fz2 : ∀ o, w.frozen? ⟨B 2, o, none⟩ = false := (h.rows 2 (by omega) (by omega)).frozen
  have fz3 : ∀ o, w.frozen? ⟨B 3, o, none⟩ = false := (h.rows 3 (by omega) (by omega)).frozen
  have fz4 : ∀ o, w.frozen? ⟨B 4, o, none⟩ = false := (h.rows 4 (by omega) (by omega)).frozen
  have fz5 : ∀ o, w.frozen? ⟨B 5, o, none⟩ = false := (h.rows 5 (by omega) (by omega)).frozen
  have fz0 : ∀ o, w.frozen? ⟨B 0, o, none⟩ = false := h.top.frozen
  have HW := Lib.hid hw
  rw [hw] at c2
  have hh : L.has i = true := Lock.has_iff.2 ⟨by omega, by omega⟩
  have HR := Lib.hid (show L.step i = (false, 0, L) by
    rw [step_of hh hs (by omega) (show L.stepAt i = L from by unfold Lock.stepAt; rw [if_pos hs]; unfold Lock.take; rw [if_neg (by omega), if_neg (by omega), if_neg (by omega), if_neg (by omega), if_pos HW.out])]
    simp [Lock.setP_same, Lock.setT_ps, hs])
  have HS := Lib.hid hs
  have HP := Lib.hid hp
  have HL := Lib.hid h
  have HA := Lib.hid ha
  rw [hs] at c3
  clear h ha ok hs hp hh hA pk hw
  go_enter Try.func14, Try.ntmps14
  go_wp2
  go_wp2_with fail
  all_goals
    go_ret2
    unfold RPost
    rw [HR.out]
    refine ⟨rfl, ⟨_, ?_, HA.out.set i 5 _ (by omega) ?_ ?_⟩, (((Frm.refl _ _).ref 4 (by omega) _ _).ref 3 (by omega) _ _)⟩
    · have := (HL.out.setAt i 5).setState i 1
      simp only [Lock.setT_ps, Lock.setT_setP, Lock.setP_same, Lock.setP_setP] at this
      rw [setP_eta HS.out] at this; exact this
    · intro j hj
      exact ⟨rfl, rfl⟩
    · intro _; rw [HP.out]

set_option maxRecDepth 100000 in
set_option maxHeartbeats 2000000 in
theorem RStep31a (B C : Nat → Nat) (L : Lock) (A : Nat → Int) (i : Nat) (w : World) (h : IsRef w B C L A) (ha : AtOk L A) (ok : L.Ok) (hi : i < L.n) (hs : (L.ps i).state = 3) (hp : (L.ps i).step = 1) (hx : (L.ps i).next = -1) :
    Calls Try.prog 14 #[.pointer (some ⟨B 0, 0, none⟩), .int .i64 i] w (RPost B C L i w) := by
  have hn := ok.n
  have pk := ok.ps i
  have hA : A i = 1 := by rw [ha.same i (.inr hs), hp]
  obtain ⟨t0, t1, t2, t3, t4, t5, c1, c2, c3, c4, c5⟩ := facts h hi
  rw [hA] at c4
  have d01 := h.apart 0 1 (by omega) (by omega) (by omega)
  have d02 := h.apart 0 2 (by omega) (by omega) (by omega)
  have d03 := h.apart 0 3 (by omega) (by omega) (by omega)
  have d04 := h.apart 0 4 (by omega) (by omega) (by omega)
  have d05 := h.apart 0 5 (by omega) (by omega) (by omega)
  have d10 := h.apart 1 0 (by omega) (by omega) (by omega)
  have d12 := h.apart 1 2 (by omega) (by omega) (by omega)
  have d13 := h.apart 1 3 (by omega) (by omega) (by omega)
  have d14 := h.apart 1 4 (by omega) (by omega) (by omega)
  have d15 := h.apart 1 5 (by omega) (by omega) (by omega)
  have d20 := h.apart 2 0 (by omega) (by omega) (by omega)
  have d21 := h.apart 2 1 (by omega) (by omega) (by omega)
  have d23 := h.apart 2 3 (by omega) (by omega) (by omega)
  have d24 := h.apart 2 4 (by omega) (by omega) (by omega)
  have d25 := h.apart 2 5 (by omega) (by omega) (by omega)
  have d30 := h.apart 3 0 (by omega) (by omega) (by omega)
  have d31 := h.apart 3 1 (by omega) (by omega) (by omega)
  have d32 := h.apart 3 2 (by omega) (by omega) (by omega)
  have d34 := h.apart 3 4 (by omega) (by omega) (by omega)
  have d35 := h.apart 3 5 (by omega) (by omega) (by omega)
  have d40 := h.apart 4 0 (by omega) (by omega) (by omega)
  have d41 := h.apart 4 1 (by omega) (by omega) (by omega)
  have d42 := h.apart 4 2 (by omega) (by omega) (by omega)
  have d43 := h.apart 4 3 (by omega) (by omega) (by omega)
  have d45 := h.apart 4 5 (by omega) (by omega) (by omega)
  have d50 := h.apart 5 0 (by omega) (by omega) (by omega)
  have d51 := h.apart 5 1 (by omega) (by omega) (by omega)
  have d52 := h.apart 5 2 (by omega) (by omega) (by omega)
  have d53 := h.apart 5 3 (by omega) (by omega) (by omega)
  have d54 := h.apart 5 4 (by omega) (by omega) (by omega)
  have fz1 : ∀ o, w.frozen? ⟨B 1, o, none⟩ = false := (h.rows 1 (by omega) (by omega)).frozen
  have fz2 : ∀ o, w.frozen? ⟨B 2, o, none⟩ = false := (h.rows 2 (by omega) (by omega)).frozen
  have fz3 : ∀ o, w.frozen? ⟨B 3, o, none⟩ = false := (h.rows 3 (by omega) (by omega)).frozen
  have fz4 : ∀ o, w.frozen? ⟨B 4, o, none⟩ = false := (h.rows 4 (by omega) (by omega)).frozen
  have fz5 : ∀ o, w.frozen? ⟨B 5, o, none⟩ = false := (h.rows 5 (by omega) (by omega)).frozen
  have fz0 : ∀ o, w.frozen? ⟨B 0, o, none⟩ = false := h.top.frozen
  have HX := Lib.hid hx
  rw [hx] at c1
  have hh : L.has i = true := Lock.has_iff.2 ⟨by omega, by omega⟩
  have HR := Lib.hid (show L.step i = (false, 0, L.setP i { L.ps i with other := -1, step := 2 }) by
    rw [step_of hh hs (by omega) (show L.stepAt i = L.setP i { L.ps i with other := -1, step := 2 } from by unfold Lock.stepAt; rw [if_neg (by omega), if_pos hs]; unfold Lock.give; rw [if_pos hp, HX.out, if_pos rfl])]
    simp [Lock.setP_same, Lock.setT_ps, hs])
  have HS := Lib.hid hs
  have HP := Lib.hid hp
  have HL := Lib.hid h
  have HA := Lib.hid ha
  rw [hs] at c3
  clear h ha ok hs hp hh hA pk hx
  go_enter Try.func14, Try.ntmps14
  go_wp2
  go_region
  all_goals go_wp2
  all_goals
    go_ret2
    unfold RPost
    rw [HR.out]
    refine ⟨rfl, ⟨_, ?_, HA.out.set i 2 _ (by omega) ?_ ?_⟩, ((((Frm.refl _ _).ref 5 (by omega) _ _).ref 4 (by omega) _ _).ref 3 (by omega) _ _).drew⟩
    · have := (((HL.out.setOther i (-1)).setAt i 2).setState i 3).setStep i 2
      simp only [Lock.setT_ps, Lock.setT_setP, Lock.setP_same, Lock.setP_setP] at this
      simp only [HX.out] at this ⊢
      first | exact this | exact this.drew | (simp only [HS.out] at this ⊢; first | exact this | exact this.drew)
    · intro j hj
      simp [Lock.setP, Lock.setT, hj]
    · simp [Lock.setP_same, Lock.setT_ps]
end Go.Proofs.Ythhcmilijiccmaa
