/- However steps come, what was put in is taken once at most, and what was not taken is there, and comes out: the walk of StealOnce. No condition. -/
import Derived.Test.YtnjondphbfniaaaOd
namespace Go.Proofs.Ytnjondphbfniaaa
open Go.RowKit Go.Deep

theorem Marked.cap_ge {w wr : World} {b pb cap g cv N : Nat} {d : Dq} {T : Nat → Int} (h : Marked w wr b pb cap d g cv T N) : N ≤ cv ∧ cv ≤ 9223372036854775807 := by
  rcases h.own.2 with ⟨h', _⟩ | ⟨g', cap', cur, h', _, _, h1, h2, _⟩
  · simp at h'
  · simp only [Value.slice.injEq] at h'
    obtain ⟨_, _, rfl⟩ := h'
    unfold maxLen at h2
    exact ⟨h1, h2⟩

set_option maxRecDepth 100000 in
set_option maxHeartbeats 8000000 in
theorem once_any (n th : Int) (a : Option Addr) (len cap0 : Nat) (e : Nat → Opn) (w : World) (h0 : -9223372036854775808 ≤ n) (h1 : n ≤ 9223372036854775807) (h2 : -9223372036854775808 ≤ th) (h3 : th ≤ 9223372036854775807) (ha : SlOk a len cap0) (hI : RawO w a len e) :
    Calls Try.prog 4 #[.int .i64 n, .int .i64 th, .slice a len cap0] w fun r w' => r = .returned (.bool true) ∧ Below w.heap.size w w' := by
  have HI := Lib.hid hI
  clear hI
  go_enter Try.func4, Try.ntmps4
  go_upto_region 1 with fail
  go_cut [2] (fun u1 wr => ∃ (m cap' : Nat), u1 = .slice a m cap' ∧ m ≤ len ∧ m ≤ 300 ∧ w = wr)
  case first =>
    rcases ha with ⟨rfl, rfl, rfl⟩ | ⟨x, rfl, hcap, hm⟩
    · go_wp2_with fail
      go_meet
      case rel => exact ⟨0, _, rfl, by omega, by omega, rfl⟩
    · by_cases h2 : (300 : Int) < len
      all_goals
        go_wp2_with fail
        all_goals
          go_meet
          case rel => exact ⟨_, _, rfl, by omega, by omega, rfl⟩
  case rest =>
    obtain ⟨m, cap', rfl, hm, hm2, rfl⟩ := hcut
    have HO := Lib.hid (HI.out.take hm)
    clear HI ha
    go_wp2_with fail
    refine (New_any n th _ h0 h1 h2 h3).mono ?_
    rintro r w1 ⟨b, pb, cap, rfl, hb, hpb, hq, hB⟩
    have HB1 := Lib.hid hB
    have HR := Lib.hid (run_any hq (Dq.Ok.fresh n th) (Dq.Safe.fresh n th) hB hb hpb a m cap' e hm2 HO.out)
    clear hq hB
    go_wp2_with fail
    refine HR.out.mono ?_
    rintro r w2 ⟨d, T, L, N, g, cv, rfl, hN, hS, hok, hM⟩
    have hN1 := hS.pos
    have HS := Lib.hid hS
    have HOK := Lib.hid hok
    have HM := Lib.hid hM
    clear hS hok hM HR HO h0 h1 h2 h3
    go_wp2_with fail
    go_loopw [35] (fun s wr => ∃ i : Nat, i ≤ 9 ∧ s = .int .i64 i ∧ ∃ (d : Dq) (T : Nat → Int) (L : Int), d.Safe L T N ∧ d.Ok (300 + 6 * i) ∧ Idle d i ∧ Marked w1 wr b pb cap d g cv T N) (fun s _ => 9 - (intOf s).toNat)
    case atStart => exact ⟨0, Nat.zero_le _, rfl, d, T, L, HS.out, HOK.out, fun k hk => by omega, HM.out⟩
    case round =>
      clear HS HOK HM
      obtain ⟨i, hi9, rfl, d, T, L, hS, hok, hIdle, hM⟩ := hrel
      by_cases hlt : i < 9
      · have hltI : (i : Int) < 9 := by omega
        have HS := Lib.hid hS
        have HOK := Lib.hid hok
        have HM := Lib.hid hM
        have HID := Lib.hid hIdle
        clear hS hok hM hIdle
        go_wp2_with fail
        go_loopw [38] (fun s wr => ∃ j : Nat, j ≤ 6 ∧ s = .int .i64 j ∧ ∃ (d : Dq) (T : Nat → Int) (L : Int), d.Safe L T N ∧ d.Ok (300 + 6 * i + j) ∧ Idle d i ∧ Near d i j ∧ Marked w1 wr b pb cap d g cv T N) (fun s _ => 6 - (intOf s).toNat)
        case atStart => exact ⟨0, Nat.zero_le _, rfl, d, T, L, HS.out, HOK.out, HID.out, Near.start HOK.out i, HM.out⟩
        case round =>
          clear HS HOK HM HID
          obtain ⟨j, hj6, rfl, d, T, L, hS, hok, hIdle, hNear, hM⟩ := hrel
          by_cases hlt6 : j < 6
          · have HS := Lib.hid hS
            have HOK := Lib.hid hok
            have HM := Lib.hid hM
            have HID := Lib.hid hIdle
            have HNR := Lib.hid hNear
            have HBY := Lib.hid (Busy_any hM.dq hok.n.2 i)
            clear hS hok hM hIdle hNear
            cases hbz : d.busy i with
            | false =>
              rw [hbz] at HBY
              have HBZ := Lib.hid hbz
              clear hbz
              go_wp2_with fail
              refine HBY.out.mono ?_
              rintro r w3 ⟨rfl, rfl⟩
              go_wp2_with fail
              go_roundw
              case rel => exact ⟨j + 1, by omega, by go_num, d, T, L, HS.out, HOK.out.mono, HID.out, Near.quiet HBZ.out, HM.out⟩
              case measure => simp [intOf]; omega
            | true =>
              rw [hbz] at HBY
              have HP := Lib.hid (Step_any HM.out.dq HOK.out (by omega) i)
              have HOK1 := Lib.hid (HOK.out.step i)
              have HK := Lib.hid (HS.out.step HOK.out i)
              have HID1 := Lib.hid (HID.out.step)
              have HNR1 := Lib.hid (HNR.out.step HOK.out hbz)
              clear hbz
              generalize d.step i = q at *
              obtain ⟨how, y, er, d'⟩ := q
              simp only at HP HOK1 HID1 HNR1
              unfold stolenV at HP
              go_wp2_with fail
              refine HBY.out.mono ?_
              rintro r w3 ⟨rfl, rfl⟩
              go_upto_region 13 with (go_at_call 13; refine HP.out.mono ?_; rintro r w3 ⟨rfl, h3, hF3⟩; have HM3 := Lib.hid (HM.out.call hF3 h3); clear h3 hF3 HP HM)
              obtain ⟨W5, hW5⟩ : ∃ W5, w3.alloc (.cells #[.bool (how != 0), .int .i64 how, .int .i64 y] 44) = W5 := ⟨_, rfl⟩
              obtain ⟨D, hD⟩ : ∃ D, w3.heap.size = D := ⟨_, rfl⟩
              obtain ⟨y0, y1, y2⟩ := cells_new3 w3 (.bool (how != 0)) (.int .i64 how) (.int .i64 y) 44
              have hDg : ¬ D = g := by have := HM3.out.g_ge; omega
              have hgD : ¬ g = D := fun e => hDg e.symm
              have HM5 := Lib.hid (show Marked w1 W5 b pb cap d' g cv T N by rw [← hW5]; exact HM3.out.alloc _)
              rw [hW5, hD] at y0 y1 y2
              rw [hW5, hD]
              clear hW5 hD HM3 y0
              by_cases hw4 : how = 4
              · subst hw4
                have hN2 : 2 ≤ N := HK.out.1.2 rfl
                have g0 := HM5.out.cell (i := N - 1) (by omega)
                have g1 := HM5.out.frozen (N - 1)
                have HM6 := Lib.hid (HM5.out.store (N - 1) (-1))
                have HK6 := Lib.hid HK.out.2
                have hwr : IntKind.i64.wrap ((N : Int) - 1) = ((N - 1 : Nat) : Int) := by rw [IntWalk.i64_in _ (by omega)]; omega
                clear HK
                go_wp2_with fail
                go_roundw
                case rel => exact HK6.out.elim fun L' hS' => ⟨j + 1, by omega, by go_num, d', _, L', hS', HOK1.out, HID1.out, HNR1.out, HM6.out⟩
                case measure => simp [intOf]; omega
              · have w4' : (how == 4) = false := by simpa using hw4
                have HW4 := Lib.hid hw4
                clear hw4
                by_cases hw1 : how = 1
                · subst hw1
                  obtain ⟨t1, t2, t3⟩ := HK.out.1.1 rfl
                  simp only at t1 t2 t3
                  obtain ⟨yn, rfl⟩ := Int.eq_ofNat_of_zero_le (show 0 ≤ y by omega)
                  rw [Int.toNat_natCast] at t3
                  have hyn : yn < N := by omega
                  have g0 := HM5.out.cell (i := yn) (by omega)
                  have g1 := HM5.out.frozen yn
                  rw [t3] at g0
                  have HM6 := Lib.hid (HM5.out.store yn 1)
                  have HK6 := Lib.hid (show ∃ L', d'.Safe L' (setv T yn 1) N from HK.out.2)
                  clear HK t3
                  go_wp2_with fail
                  go_roundw
                  case rel => exact HK6.out.elim fun L' hS' => ⟨j + 1, by omega, by go_num, d', _, L', hS', HOK1.out, HID1.out, HNR1.out, HM6.out⟩
                  case measure => simp [intOf]; omega
                · have w1' : (how == 1) = false := by simpa using hw1
                  have HK6 := Lib.hid (show ∃ L', d'.Safe L' T N by
                    have := HK.out.2
                    unfold aft at this
                    rw [if_neg HW4.out, if_neg hw1] at this
                    exact this)
                  clear HK hw1
                  go_wp2_with fail
                  go_roundw
                  case rel => exact HK6.out.elim fun L' hS' => ⟨j + 1, by omega, by go_num, d', _, L', hS', HOK1.out, HID1.out, HNR1.out, HM5.out⟩
                  case measure => simp [intOf]; omega
          · obtain rfl : j = 6 := by omega
            have HS := Lib.hid hS
            have HOK := Lib.hid hok
            have HM := Lib.hid hM
            have HID := Lib.hid (hNear.idle hok hIdle)
            clear hS hok hM hIdle hNear
            go_wp2_with fail
            go_roundw
            case rel => exact ⟨i + 1, by omega, by go_num, d, T, L, HS.out, HOK.out.monoN (by omega), HID.out, HM.out⟩
            case measure => simp [intOf]; omega
      · obtain rfl : i = 9 := by omega
        obtain ⟨hR, hz⟩ := hS.rest hok hIdle
        have hzb := zer_bd T (N - 1)
        obtain ⟨M, hMz⟩ := Int.eq_ofNat_of_zero_le hzb.1
        have hM300 : M ≤ 300 := by omega
        have HR := Lib.hid hR
        have HOK := Lib.hid hok
        have HM := Lib.hid hM
        have HMZ := Lib.hid hMz
        have HBT := Lib.hid (show d.bottom - d.top = M by omega)
        have HLN := Lib.hid (Len_any hM.dq hok (by omega))
        rw [show d.len = M by unfold Dq.len; omega] at HLN
        obtain ⟨hcv1, hcv2⟩ := hM.cap_ge
        have HCE := Lib.hid (fun k (hk : k < N - 1) => show wr.cell? ⟨g, 1 + k, none⟩ = some (.int .i64 (T (k + 1))) from by
          have := hM.cell (i := k + 1) (by omega)
          rw [Nat.add_comm] at this
          rw [this, Nat.add_comm])
        clear hS hok hM hIdle hR hz hzb hMz
        go_wp2_with fail
        all_goals
          go_loopw [13, 87] (fun l s wx => ∃ k : Nat, k ≤ N - 1 ∧ s = .int .i64 k ∧ l = .int .i64 (zer T k) ∧ wr = wx) (fun _ s _ => N - 1 - (intOf s).toNat)
          case atStart => exact ⟨0, Nat.zero_le _, rfl, rfl, rfl⟩
          case round =>
            obtain ⟨k, hk, rfl, rfl, rfl⟩ := hrel
            have hzb := zer_bd T k
            by_cases hltk : k < N - 1
            · have c0 := HCE.out k hltk
              have HZ := Lib.hid (show zer T (k + 1) = zer T k + if T (k + 1) = 0 then 1 else 0 from rfl)
              generalize T (k + 1) = tk at *
              generalize zer T k = z at *
              by_cases hz0 : tk = 0
              all_goals
                first | (have e0 : (tk == 0) = true := by simpa using hz0) | (have e0 : (tk == 0) = false := by simpa using hz0)
                have HZ0 := Lib.hid hz0
                clear hz0
                go_wp2_with fail
                all_goals
                  go_roundw
                  case rel => exact ⟨k + 1, by omega, by go_num, by rw [HZ.out]; simp [HZ0.out], by trivial⟩
                  case measure => simp [intOf]; omega
            · obtain rfl : k = N - 1 := by omega
              rw [HMZ.out]
              go_wp2_with fail
              refine HLN.out.mono ?_
              rintro q w' ⟨rfl, kk, rfl⟩
              have HM2 := Lib.hid (HM.out.drewN kk)
              clear HM hzb HLN
              go_wp2_with fail
              go_loopw [16, 103] (fun la s wx => ∃ r : Nat, r ≤ M ∧ s = .int .i64 r ∧ ∃ (last : Nat) (d : Dq) (T : Nat → Int), la = .int .i64 last ∧ last ≤ N ∧ Rest d T N last ∧ d.bottom - d.top = (M : Int) - r ∧ d.Ok (400 + 7 * r) ∧ Marked w1 wx b pb cap d g cv T N) (fun _ s _ => M - (intOf s).toNat)
              case atStart => exact ⟨0, Nat.zero_le _, rfl, N, d, T, rfl, Nat.le_refl _, HR.out, by have := HBT.out; omega, HOK.out.monoN (by omega), HM2.out⟩
              case round =>
                clear HM2 HR HBT HOK HMZ
                obtain ⟨r, hr, rfl, last, d, T, rfl, hlast, hR, hbt, hok, hM⟩ := hrel
                by_cases hltr : r < M
                · have HO1 := Lib.hid (one_any hM.dq hok (by omega) 0)
                  obtain ⟨x, d', hO, x1, x2, x3, x4, hR', hbt'⟩ := hR.pop (by omega)
                  obtain ⟨xn, rfl⟩ := Int.eq_ofNat_of_zero_le (show 0 ≤ x by omega)
                  rw [Int.toNat_natCast] at x4 hR'
                  have hok' := hok.oneD 0
                  rw [hO] at HO1 hok'
                  have HR1 := Lib.hid hR'
                  have HBT1 := Lib.hid (show d'.bottom - d'.top = (M : Int) - (r + 1 : Nat) by omega)
                  have HOK1 := Lib.hid hok'
                  have HM := Lib.hid hM
                  have hxN : xn < N := by omega
                  have hxl : xn < last := by omega
                  have X4 := Lib.hid x4
                  clear hR hbt hok hM hO hR' hbt' hok' x4
                  go_wp2_with fail
                  refine HO1.out.mono ?_
                  rintro q w3 ⟨rfl, h3, hF3⟩
                  have hM3 := HM.out.call hF3 h3
                  have g0 := hM3.cell (i := xn) hxN
                  have g1 := hM3.frozen xn
                  rw [X4.out] at g0
                  have HM4 := Lib.hid (hM3.store xn 1)
                  clear h3 hF3 hM3 HO1 HM
                  go_wp2_with fail
                  all_goals
                   go_roundw
                   case rel => exact ⟨r + 1, by omega, by go_num, xn, d', _, rfl, by omega, HR1.out, HBT1.out, HOK1.out.monoN (by omega), HM4.out⟩
                   case measure => simp [intOf]; omega
                · have HO1 := Lib.hid (one_any hM.dq hok (by omega) 0)
                  obtain ⟨q, hq1⟩ : ∃ q, oneD d 0 = q := ⟨_, rfl⟩
                  have hE := hR.none (by omega)
                  rw [hq1] at HO1 hE
                  obtain ⟨q1, q2, q3⟩ := q
                  simp only at hE
                  subst hE
                  have HM := Lib.hid hM
                  clear hR hbt hok hM hq1
                  go_wp2_with fail
                  refine HO1.out.mono ?_
                  rintro q w3 ⟨rfl, h3, hF3⟩
                  have HB3 := Lib.hid (both_below HB1.out hb hpb (HM.out.call hF3 h3).frm)
                  clear h3 hF3 HO1 HM
                  go_wp2_with fail
                  refine (lives_any _).mono ?_
                  rintro q w4 ⟨rfl, hb4⟩
                  have HB4 := Lib.hid (HB3.out.trans (hb4.mono HB3.out.size))
                  clear hb4 HB3
                  go_wp2_with fail
                  go_ret
                  exact ⟨rfl, HB4.out⟩
end Go.Proofs.Ytnjondphbfniaaa
