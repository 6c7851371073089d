/- Contracts of the laws' helpers steps and lives (layer 29). No condition. -/
import Derived.Test.YthhcmilijiccmaaE
namespace Go.Proofs.Ythhcmilijiccmaa
open Go.RowKit

/-- So many steps of a party's. -/
def stepsL (L : Lock) (who : Int) : Nat → Lock
  | 0 => L
  | k + 1 => ((stepsL L who k).step who).2.2

theorem stepsL_ok {L : Lock} (ok : L.Ok) (who : Int) : ∀ k, (stepsL L who k).Ok
  | 0 => ok
  | k + 1 => (stepsL_ok ok who k).step who

theorem steps_any (b : Nat) (L : Lock) (who : Int) (n : Nat) (w : World) (h : IsLock w b L) (ok : L.Ok) (hn : n ≤ 1000) :
    Calls Try.prog 20 #[.pointer (some ⟨b, 0, none⟩), .int .i64 who, .int .i64 n] w
      fun r w' => r = .returned (.tuple #[]) ∧ IsLock w' b (stepsL L who n) ∧ Frm (Only b) w w' := by
  have HL := Lib.hid h
  have HK := Lib.hid ok
  clear h ok
  go_enter Try.func20, Try.ntmps20
  go_wp2_with fail
  go_loopw [7] (fun i wr => ∃ k : Nat, k ≤ n ∧ i = .int .i64 k ∧ IsLock wr b (stepsL L who k) ∧ Frm (Only b) w wr) (fun i _ => n - (intOf i).toNat)
  case atStart => exact ⟨0, Nat.zero_le _, rfl, HL.out, Frm.refl _ _⟩
  case round =>
    obtain ⟨k, hk, rfl, hL, hF⟩ := hrel
    by_cases hlt : k < n
    · have HS := Lib.hid (Step_any b _ who wr hL (stepsL_ok HK.out who k))
      clear hL
      go_wp2_with fail
      refine HS.out.mono ?_
      rintro r w' ⟨rfl, h2, h3⟩
      have H2 := Lib.hid h2
      clear h2
      go_wp2_with fail
      go_roundw
      case rel => exact ⟨k + 1, by omega, by go_num, H2.out, hF.trans h3⟩
      case measure => simp [intOf]; omega
    · obtain rfl : k = n := by omega
      have H2 := Lib.hid hL
      clear hL
      go_wp2_with fail
      go_end0
      exact ⟨rfl, H2.out, hF⟩

theorem only_below {b : Nat} {w a a' : World} (h : Below w.heap.size w a) (hb : w.heap.size ≤ b) (hF : Frm (Only b) a a') : Below w.heap.size w a' :=
  h.trans (hF.below h.size (fun k hk e => by unfold Only at e; omega))

set_option maxHeartbeats 1000000 in
theorem lives_any (w : World) : Calls Try.prog 11 #[] w fun r w' => r = .returned (.bool true) ∧ Below w.heap.size w w' := by
  go_enter Try.func11, Try.ntmps11
  go_wp2_with fail
  refine (New_any 2 _ (by omega) (by omega)).mono ?_
  rintro r w0 ⟨b, rfl, hb, hL, hB⟩
  have ok0 := Lock.Ok.fresh 2
  have T1 := Lib.hid (Take_any b _ 0 w0 hL ok0)
  have O1 := ok0.call 0 (f := 0) (.inl rfl)
  have HB := Lib.hid hB
  clear hL hB
  go_wp2_with fail
  refine T1.out.mono ?_
  rintro r w1 ⟨rfl, h1, f1⟩
  have B1 := Lib.hid (only_below HB.out hb f1)
  have T2 := Lib.hid (steps_any b _ 0 3 w1 h1 O1 (by omega))
  have O2 := stepsL_ok O1 0 3
  clear h1 f1
  go_wp2_with fail
  refine T2.out.mono ?_
  rintro r w2 ⟨rfl, h2, f2⟩
  have B2 := Lib.hid (only_below B1.out hb f2)
  have T3 := Lib.hid (State_any b _ 0 w2 h2 O2)
  have T4 := Lib.hid (Take_any b _ 1 w2 h2 O2)
  have O4 := O2.call 1 (f := 0) (.inl rfl)
  rw [show (stepsL ((Lock.fresh 2).call 0 0).2 0 3).stateOf 0 = 2 from by kernel_rfl] at T3
  clear h2 f2
  go_wp2_with fail
  refine T3.out.mono ?_
  rintro r w' ⟨rfl, rfl⟩
  go_wp2_with fail
  refine T4.out.mono ?_
  rintro r w3 ⟨rfl, h3, f3⟩
  have B3 := Lib.hid (only_below B2.out hb f3)
  have T5 := Lib.hid (steps_any b _ 1 5 w3 h3 O4 (by omega))
  have O5 := stepsL_ok O4 1 5
  clear h3 f3
  go_wp2_with fail
  refine T5.out.mono ?_
  rintro r w4 ⟨rfl, h4, f4⟩
  have B4 := Lib.hid (only_below B3.out hb f4)
  have T6 := Lib.hid (State_any b _ 1 w4 h4 O5)
  have T7 := Lib.hid (Give_any b _ 0 w4 h4 O5)
  have O7 := O5.call 0 (f := 2) (.inr rfl)
  rw [show (stepsL ((stepsL ((Lock.fresh 2).call 0 0).2 0 3).call 1 0).2 1 5).stateOf 1 = 1 from by kernel_rfl] at T6
  clear h4 f4
  go_wp2_with fail
  refine T6.out.mono ?_
  rintro r w' ⟨rfl, rfl⟩
  go_wp2_with fail
  refine T7.out.mono ?_
  rintro r w5 ⟨rfl, h5, f5⟩
  have B5 := Lib.hid (only_below B4.out hb f5)
  have T8 := Lib.hid (steps_any b _ 0 2 w5 h5 O7 (by omega))
  have O8 := stepsL_ok O7 0 2
  clear h5 f5
  go_wp2_with fail
  refine T8.out.mono ?_
  rintro r w6 ⟨rfl, h6, f6⟩
  have B6 := Lib.hid (only_below B5.out hb f6)
  have T9 := Lib.hid (steps_any b _ 1 1 w6 h6 O8 (by omega))
  have O9 := stepsL_ok O8 1 1
  clear h6 f6
  go_wp2_with fail
  refine T9.out.mono ?_
  rintro r w7 ⟨rfl, h7, f7⟩
  have B7 := Lib.hid (only_below B6.out hb f7)
  have T10 := Lib.hid (State_any b _ 0 w7 h7 O9)
  have T11 := Lib.hid (State_any b _ 1 w7 h7 O9)
  rw [show (stepsL (stepsL ((stepsL ((stepsL ((Lock.fresh 2).call 0 0).2 0 3).call 1 0).2 1 5).call 0 2).2 0 2) 1 1).stateOf 0 = 0 from by kernel_rfl] at T10
  rw [show (stepsL (stepsL ((stepsL ((stepsL ((Lock.fresh 2).call 0 0).2 0 3).call 1 0).2 1 5).call 0 2).2 0 2) 1 1).stateOf 1 = 2 from by kernel_rfl] at T11
  clear h7 f7
  go_wp2_with fail
  refine T10.out.mono ?_
  rintro r w' ⟨rfl, rfl⟩
  go_wp2_with fail
  refine T11.out.mono ?_
  rintro r w' ⟨rfl, rfl⟩
  go_wp2_with fail
  go_ret
  exact ⟨rfl, B7.out⟩
end Go.Proofs.Ythhcmilijiccmaa
