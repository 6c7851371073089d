/- One call from its beginning to its end: the walk. No condition. -/
import Derived.Test.YtnjondphbfniaaaW
import Derived.Deep.RegionWith
import Derived.IntWalk
namespace Go.Proofs.Ytnjondphbfniaaa
open Go.RowKit Go.Deep

def OneTo (w : World) (b pb cap : Nat) (q : Bool × Int × Dq) (e : Ending) (w' : World) : Prop :=
  e = .returned (.tuple #[.int .i64 q.2.1, .bool q.1]) ∧ IsDq w' b pb cap q.2.2 ∧ Frm (Both b pb) w w'


set_option maxRecDepth 100000 in
set_option maxHeartbeats 4000000 in
theorem one_any {w : World} {b pb cap K : Nat} {d : Dq} (h : IsDq w b pb cap d) (ok : d.Ok K) (hK : K ≤ 90000) (who : Int) :
    Calls Try.prog 14 #[.pointer (some ⟨b, 0, none⟩), .int .i64 who] w (OneTo w b pb cap (oneD d who)) := by
  have OK := Lib.hid (ok.oneBegin who)
  unfold oneD
  by_cases h0 : who = 0
  · subst h0
    have HP := Lib.hid (Pop_any h ok.n.2)
    rw [show (d.begin 0 2 0).2 = oneBegin d 0 from rfl] at HP
    obtain ⟨D, hD⟩ : ∃ D, oneBegin d 0 = D := ⟨_, rfl⟩
    rw [hD] at OK HP
    rw [hD]
    clear h hD
    go_enter Try.func14, Try.ntmps14
    go_wp2_with fail
    refine HP.out.mono ?_
    rintro r w2 ⟨rfl, h2, hF⟩
    have H2 := Lib.hid h2
    have HF2 := Lib.hid hF
    clear h2 hF HP
    go_wp2_with fail
    go_loopw [15] (fun i wr => ∃ k : Nat, k ≤ 6 ∧ i = .int .i64 k ∧ (∃ D', oneGo 0 6 D = oneGo 0 (6 - k) D' ∧ D'.Ok (K + 1 + k) ∧ IsDq wr b pb cap D') ∧ Frm (Both b pb) w wr) (fun i _ => 6 - (intOf i).toNat)
    case atStart => exact ⟨0, Nat.zero_le _, rfl, ⟨_, rfl, OK.out, H2.out⟩, HF2.out⟩
    case round =>
      clear H2 HF2
      obtain ⟨k, hk, rfl, ⟨D', hE, hok, hq⟩, hF⟩ := hrel
      by_cases hlt : k < 6
      · have HS := Lib.hid (Step_any hq hok (by omega) 0)
        obtain ⟨s, hs⟩ : ∃ s, D'.step 0 = s := ⟨_, rfl⟩
        have HE := Lib.hid (show oneGo 0 6 D = if s.1 = 0 then oneGo 0 (6 - (k + 1)) s.2.2.2 else (decide (s.1 = 1), s.2.1, s.2.2.2) by rw [hE, show 6 - k = (6 - (k + 1)) + 1 by omega, oneGo, hs])
        have HO := Lib.hid (show s.2.2.2.Ok (K + 1 + (k + 1)) by rw [← hs]; exact hok.step 0)
        rw [hs] at HS
        unfold stolenV at HS
        have HF := Lib.hid hF
        clear hq hok hE hF hs
        obtain ⟨s1, s2, s3, s4⟩ := s
        simp only at HS HO HE
        go_wp2_with fail
        refine HS.out.mono ?_
        rintro r w3 ⟨rfl, h3, hF3⟩
        have HF3 := Lib.hid (HF.out.trans hF3)
        have H3 := Lib.hid h3
        clear h3 hF3 HF
        by_cases hs1 : s1 = 0
        · have e1 : (s1 != 0) = false := by simp [hs1]
          have HS1 := Lib.hid hs1
          clear hs1
          go_wp2_with fail
          go_roundw
          case rel => exact ⟨k + 1, by omega, by go_num, ⟨_, by rw [HE.out, if_pos HS1.out], HO.out, H3.out.alloc _⟩, HF3.out.alloc _⟩
          case measure => simp [intOf]; omega
        · have e1 : (s1 != 0) = true := by simp [hs1]
          have HS1 := Lib.hid hs1
          clear hs1
          go_wp2_with fail
          go_region
          go_wp2_with fail
          go_ret2
          refine ⟨?_, ?_, ?_⟩
          · rw [HE.out, if_neg HS1.out]; rfl
          · rw [HE.out, if_neg HS1.out]; exact (H3.out.alloc _).drewN _
          · exact (HF3.out.alloc _).drewN _
      · obtain rfl : k = 6 := by omega
        have HE := Lib.hid hE
        have HQ := Lib.hid hq
        have HF := Lib.hid hF
        clear hE hok hq hF
        go_wp2_with fail
        go_ret2
        refine ⟨?_, ?_, ?_⟩
        · rw [HE.out]; rfl
        · rw [HE.out]; exact HQ.out
        · exact HF.out
  · have HP := Lib.hid (Steal_any h ok.n.2 who)
    rw [show (d.theft who).2 = oneBegin d who from (if_neg h0).symm] at HP
    obtain ⟨D, hD⟩ : ∃ D, oneBegin d who = D := ⟨_, rfl⟩
    rw [hD] at OK HP
    rw [hD]
    have e0 : (who == 0) = false := by simpa using h0
    clear h hD h0
    go_enter Try.func14, Try.ntmps14
    go_wp2_with fail
    refine HP.out.mono ?_
    rintro r w2 ⟨rfl, h2, hF⟩
    have H2 := Lib.hid h2
    have HF2 := Lib.hid hF
    clear h2 hF HP
    go_wp2_with fail
    go_loopw [15] (fun i wr => ∃ k : Nat, k ≤ 6 ∧ i = .int .i64 k ∧ (∃ D', oneGo who 6 D = oneGo who (6 - k) D' ∧ D'.Ok (K + 1 + k) ∧ IsDq wr b pb cap D') ∧ Frm (Both b pb) w wr) (fun i _ => 6 - (intOf i).toNat)
    case atStart => exact ⟨0, Nat.zero_le _, rfl, ⟨_, rfl, OK.out, H2.out⟩, HF2.out⟩
    case round =>
      clear H2 HF2
      obtain ⟨k, hk, rfl, ⟨D', hE, hok, hq⟩, hF⟩ := hrel
      by_cases hlt : k < 6
      · have HS := Lib.hid (Step_any hq hok (by omega) who)
        obtain ⟨s, hs⟩ : ∃ s, D'.step who = s := ⟨_, rfl⟩
        have HE := Lib.hid (show oneGo who 6 D = if s.1 = 0 then oneGo who (6 - (k + 1)) s.2.2.2 else (decide (s.1 = 1), s.2.1, s.2.2.2) by rw [hE, show 6 - k = (6 - (k + 1)) + 1 by omega, oneGo, hs])
        have HO := Lib.hid (show s.2.2.2.Ok (K + 1 + (k + 1)) by rw [← hs]; exact hok.step who)
        rw [hs] at HS
        unfold stolenV at HS
        have HF := Lib.hid hF
        clear hq hok hE hF hs
        obtain ⟨s1, s2, s3, s4⟩ := s
        simp only at HS HO HE
        go_wp2_with fail
        refine HS.out.mono ?_
        rintro r w3 ⟨rfl, h3, hF3⟩
        have HF3 := Lib.hid (HF.out.trans hF3)
        have H3 := Lib.hid h3
        clear h3 hF3 HF
        by_cases hs1 : s1 = 0
        · have e1 : (s1 != 0) = false := by simp [hs1]
          have HS1 := Lib.hid hs1
          clear hs1
          go_wp2_with fail
          go_roundw
          case rel => exact ⟨k + 1, by omega, by go_num, ⟨_, by rw [HE.out, if_pos HS1.out], HO.out, H3.out.alloc _⟩, HF3.out.alloc _⟩
          case measure => simp [intOf]; omega
        · have e1 : (s1 != 0) = true := by simp [hs1]
          have HS1 := Lib.hid hs1
          clear hs1
          go_wp2_with fail
          go_region
          go_wp2_with fail
          go_ret2
          refine ⟨?_, ?_, ?_⟩
          · rw [HE.out, if_neg HS1.out]; rfl
          · rw [HE.out, if_neg HS1.out]; exact (H3.out.alloc _).drewN _
          · exact (HF3.out.alloc _).drewN _
      · obtain rfl : k = 6 := by omega
        have HE := Lib.hid hE
        have HQ := Lib.hid hq
        have HF := Lib.hid hF
        clear hE hok hq hF
        go_wp2_with fail
        go_ret2
        refine ⟨?_, ?_, ?_⟩
        · rw [HE.out]; rfl
        · rw [HE.out]; exact HQ.out
        · exact HF.out
end Go.Proofs.Ytnjondphbfniaaa
