/- Contracts of the lock's own functions (package mcs), continued. No condition. -/
import Derived.Test.YthhcmilijiccmaaC
namespace Go.Proofs.Ythhcmilijiccmaa
open Go.RowKit

/-- A step of giving. -/
theorem give_any (b i : Nat) (L : Lock) (w : World) (h : IsLock w b L) (ok : L.Ok) (hi : i < L.n) (hs : (L.ps i).state = 3) :
    Calls Try.prog 19 #[.pointer (some ⟨b, 0, none⟩), .int .i64 i, .pointer (some ⟨b, 1 + i * 5, none⟩)] w
      fun r w' => r = .returned (.tuple #[]) ∧ IsLock w' b (L.give i) ∧ Frm (Only b) w w' := by
  have hn := ok.n
  have hi16 : i < 16 := by omega
  have hp := ok.ps i
  obtain ⟨c0, c1, c2, c3, c4⟩ := h.cells hi16
  have ct := h.tail
  have fz : ∀ o, w.frozen? ⟨b, o, none⟩ = false := Blk.frozen h
  have h1 := hp.giving hs
  have HL := Lib.hid h
  clear h
  by_cases e1 : (L.ps i).step = 1
  · rw [e1] at c3
    have HE := Lib.hid e1
    by_cases e : (L.ps i).next = -1
    · have HT := Lib.hid e
      rw [e] at c0
      clear e1 hs h1 hp hn ok e
      go_enter Try.func19, Try.ntmps19
      go_wp2
      go_end0
      refine ⟨rfl, ?_, ((Frm.refl _ _).own _ _).own _ _⟩
      have := (HL.out.setOther hi16 (-1)).setStep hi16 2
      unfold Lock.give
      rw [if_pos HE.out, HT.out, if_pos rfl]
      simp only [Lock.setP_same, Lock.setP_setP] at this
      exact this
    · have HT := Lib.hid e
      have e' : ((L.ps i).next != -1) = true := by simpa using e
      clear e1 hs h1 hp hn ok e
      go_enter Try.func19, Try.ntmps19
      go_wp2
      go_end0
      refine ⟨rfl, ?_, (((Frm.refl _ _).own _ _).own _ _).own _ _⟩
      have := ((HL.out.setOther hi16 (L.ps i).next).setStep hi16 2).setStep hi16 3
      unfold Lock.give
      rw [if_pos HE.out, if_neg HT.out]
      simp only [Lock.setP_same, Lock.setP_setP] at this
      exact this
  by_cases e2 : (L.ps i).step = 2
  · rw [e2] at c3
    have HE1 := Lib.hid e1
    have HE := Lib.hid e2
    by_cases e : L.tail = i
    · have HT := Lib.hid e
      rw [e] at ct
      clear e1 e2 hs h1 hp hn ok e
      go_enter Try.func19, Try.ntmps19
      go_wp2
      go_end0
      refine ⟨rfl, ?_, (((Frm.refl _ _).own _ _).own _ _).own _ _⟩
      have := ((HL.out.setStep hi16 1).setTail (-1)).setState hi16 0
      unfold Lock.give
      rw [if_neg HE1.out, if_pos HE.out, if_pos HT.out]
      simp only [Lock.setT_ps, Lock.setT_setP, Lock.setP_same, Lock.setP_setP] at this
      exact this
    · have HT := Lib.hid e
      have e' : (L.tail == (i : Int)) = false := by simpa using e
      clear e1 e2 hs h1 hp hn ok e
      go_enter Try.func19, Try.ntmps19
      go_wp2
      go_end0
      refine ⟨rfl, ?_, (Frm.refl _ _).own _ _⟩
      have := HL.out.setStep hi16 1
      unfold Lock.give
      rw [if_neg HE1.out, if_pos HE.out, if_neg HT.out]
      exact this
  · have e3 : (L.ps i).step = 3 := by omega
    have hl := hp.wake hs e3
    have ho := hp.other
    obtain ⟨o, hoe⟩ : ∃ o : Nat, (L.ps i).other = o := ⟨(L.ps i).other.toNat, by omega⟩
    have ho16 : o < 16 := by omega
    obtain ⟨d0, d1, d2, d3, d4⟩ := HL.out.cells ho16
    rw [hoe] at c4
    rw [e3] at c3
    have HO := Lib.hid hoe
    have HE1 := Lib.hid e1
    have HE2 := Lib.hid e2
    have hw := (HL.out.setWaits ho16 false).cells hi16
    have c2' : ∃ v, (w.setCell ⟨b, 1 + o * 5 + 1, none⟩ (.bool false)).cell? ⟨b, 1 + i * 5 + 2, none⟩ = some v := ⟨_, hw.2.2.1⟩
    obtain ⟨v2, c2'⟩ := c2'
    clear e1 e2 e3 hs h1 hp hn ok hoe hl ho hw
    go_enter Try.func19, Try.ntmps19
    go_wp2
    go_region
    all_goals
      go_wp2
      go_end0
      refine ⟨rfl, ?_, (((Frm.refl _ _).own _ _).own _ _).drew⟩
      have := (HL.out.setWaits ho16 false).setState hi16 0
      unfold Lock.give
      rw [if_neg HE1.out, if_neg HE2.out, HO.out]
      exact Blk.drew this

theorem begin_no (b : Nat) (L : Lock) (who f t : Int) (w : World) (h : IsLock w b L) (ok : L.Ok) (hh : L.has who = false) :
    Calls Try.prog 16 #[.pointer (some ⟨b, 0, none⟩), .int .i64 who, .int .i64 f, .int .i64 t] w fun r w' => r = .returned (.int .i64 1) ∧ w = w' := by
  have hn := ok.n
  have hno : who < 0 ∨ (L.n : Int) ≤ who := by
    have : ¬ (0 ≤ who ∧ who < L.n) := fun hc => by rw [Lock.has_iff.2 hc] at hh; cases hh
    omega
  have hnum := h.num
  clear h ok hh
  go_enter Try.func16, Try.ntmps16
  go_wp2_with (go_at_call 17; refine (at_no _ _ _ _ hnum hno).mono ?_; rintro r w' ⟨rfl, rfl⟩)
  go_ret
  exact ⟨rfl, rfl⟩

theorem begin_other (b i : Nat) (L : Lock) (f t : Int) (w : World) (h : IsLock w b L) (ok : L.Ok) (hi : i < L.n) (hs : (L.ps i).state ≠ f) :
    Calls Try.prog 16 #[.pointer (some ⟨b, 0, none⟩), .int .i64 i, .int .i64 f, .int .i64 t] w fun r w' => r = .returned (.int .i64 5) ∧ w = w' := by
  have hn := ok.n
  obtain ⟨c0, c1, c2, c3, c4⟩ := h.cells (show i < 16 by omega)
  have hnum := h.num
  have hs' : ((L.ps i).state != f) = true := by simpa using hs
  have hs2 : ((L.ps i).state == f) = false := by simpa using hs
  clear h ok hs c0 c1 c3 c4
  go_enter Try.func16, Try.ntmps16
  go_wp2_with (go_at_call 17; refine (at_ok _ _ _ _ hnum hi (by omega)).mono ?_; rintro r w' ⟨rfl, rfl⟩)
  go_ret
  exact ⟨rfl, rfl⟩

theorem begin_yes (b i : Nat) (L : Lock) (f t : Int) (w : World) (h : IsLock w b L) (ok : L.Ok) (hi : i < L.n) (hs : (L.ps i).state = f) :
    Calls Try.prog 16 #[.pointer (some ⟨b, 0, none⟩), .int .i64 i, .int .i64 f, .int .i64 t] w
      fun r w' => r = .returned (.int .i64 0) ∧ IsLock w' b (L.put i t) ∧ Frm (Only b) w w' := by
  have hn := ok.n
  have hi16 : i < 16 := by omega
  obtain ⟨c0, c1, c2, c3, c4⟩ := h.cells hi16
  have hnum := h.num
  have fz : ∀ o, w.frozen? ⟨b, o, none⟩ = false := Blk.frozen h
  rw [hs] at c2
  have HL := Lib.hid h
  clear h ok hs
  go_enter Try.func16, Try.ntmps16
  go_wp2_with (go_at_call 17; refine (at_ok _ _ _ _ hnum hi (by omega)).mono ?_; rintro r w' ⟨rfl, rfl⟩)
  go_ret
  refine ⟨rfl, ?_, ((Frm.refl _ _).own _ _).own _ _⟩
  have := (HL.out.setState hi16 t).setStep hi16 1
  simp only [Lock.setP_same, Lock.setP_setP] at this
  exact this

/-- Take and Give. -/
theorem call_any (b : Nat) (L : Lock) (who f : Int) (w : World) (h : IsLock w b L) (ok : L.Ok) :
    Calls Try.prog 16 #[.pointer (some ⟨b, 0, none⟩), .int .i64 who, .int .i64 f, .int .i64 (f + 1)] w
      fun r w' => r = .returned (.int .i64 (L.call who f).1) ∧ IsLock w' b (L.call who f).2 ∧ Frm (Only b) w w' := by
  cases hh : L.has who with
  | false =>
    refine (begin_no b L who f _ w h ok hh).mono ?_
    rintro r w' ⟨rfl, rfl⟩
    simp only [Lock.call, hh]
    exact ⟨rfl, h, Frm.refl _ _⟩
  | true =>
    obtain ⟨h0, h1⟩ := Lock.has_iff.1 hh
    obtain ⟨i, rfl⟩ := Int.eq_ofNat_of_zero_le h0
    by_cases hs : (L.ps i).state = f
    · refine (begin_yes b i L f _ w h ok (by omega) hs).mono ?_
      rintro r w' ⟨rfl, h2, h3⟩
      simp only [Lock.call, hh, Int.toNat_natCast, hs, if_true]
      exact ⟨trivial, h2, h3⟩
    · refine (begin_other b i L f _ w h ok (by omega) hs).mono ?_
      rintro r w' ⟨rfl, rfl⟩
      simp only [Lock.call, hh, Int.toNat_natCast, if_neg hs, if_true]
      exact ⟨trivial, h, Frm.refl _ _⟩

theorem Take_any (b : Nat) (L : Lock) (who : Int) (w : World) (h : IsLock w b L) (ok : L.Ok) :
    Calls Try.prog 7 #[.pointer (some ⟨b, 0, none⟩), .int .i64 who] w
      fun r w' => r = .returned (.int .i64 (L.call who 0).1) ∧ IsLock w' b (L.call who 0).2 ∧ Frm (Only b) w w' := by
  have H := Lib.hid (call_any b L who 0 w h ok)
  clear h ok
  go_enter Try.func7, Try.ntmps7
  go_wp2_with fail
  refine H.out.mono ?_
  rintro r w' ⟨rfl, h2, h3⟩
  have H2 := Lib.hid h2
  clear h2
  go_wp2
  go_ret
  exact ⟨rfl, H2.out, h3⟩

theorem Give_any (b : Nat) (L : Lock) (who : Int) (w : World) (h : IsLock w b L) (ok : L.Ok) :
    Calls Try.prog 8 #[.pointer (some ⟨b, 0, none⟩), .int .i64 who] w
      fun r w' => r = .returned (.int .i64 (L.call who 2).1) ∧ IsLock w' b (L.call who 2).2 ∧ Frm (Only b) w w' := by
  have H := Lib.hid (call_any b L who 2 w h ok)
  clear h ok
  go_enter Try.func8, Try.ntmps8
  go_wp2_with fail
  refine H.out.mono ?_
  rintro r w' ⟨rfl, h2, h3⟩
  have H2 := Lib.hid h2
  clear h2
  go_wp2
  go_ret
  exact ⟨rfl, H2.out, h3⟩

theorem State_any (b : Nat) (L : Lock) (who : Int) (w : World) (h : IsLock w b L) (ok : L.Ok) :
    Calls Try.prog 9 #[.pointer (some ⟨b, 0, none⟩), .int .i64 who] w fun r w' => r = .returned (.int .i64 (L.stateOf who)) ∧ w = w' := by
  have hn := ok.n
  have hnum := h.num
  cases hh : L.has who with
  | false =>
    have hno : who < 0 ∨ (L.n : Int) ≤ who := by
      have : ¬ (0 ≤ who ∧ who < L.n) := fun hc => by rw [Lock.has_iff.2 hc] at hh; cases hh
      omega
    have HR := Lib.hid (show L.stateOf who = -1 by simp [Lock.stateOf, hh])
    clear h ok hh
    go_enter Try.func9, Try.ntmps9
    go_wp2_with (go_at_call 17; refine (at_no _ _ _ _ hnum hno).mono ?_; rintro r w' ⟨rfl, rfl⟩)
    go_ret
    exact ⟨by rw [HR.out]; rfl, rfl⟩
  | true =>
    obtain ⟨h0, h1⟩ := Lock.has_iff.1 hh
    obtain ⟨i, rfl⟩ := Int.eq_ofNat_of_zero_le h0
    obtain ⟨c0, c1, c2, c3, c4⟩ := h.cells (show i < 16 by omega)
    have HR := Lib.hid (show L.stateOf i = (L.ps i).state by simp [Lock.stateOf, hh])
    clear h ok hh c0 c1 c3 c4
    go_enter Try.func9, Try.ntmps9
    go_wp2_with (go_at_call 17; refine (at_ok _ _ _ _ hnum (by omega) (by omega)).mono ?_; rintro r w' ⟨rfl, rfl⟩)
    go_ret
    exact ⟨by rw [HR.out]; rfl, rfl⟩
end Go.Proofs.Ythhcmilijiccmaa
