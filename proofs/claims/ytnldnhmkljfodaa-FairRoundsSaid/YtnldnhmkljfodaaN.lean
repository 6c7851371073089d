/- A part of the proof that a round of any workers is even: the walk of the law. No condition. -/
import Derived.Test.YtnldnhmkljfodaaL
namespace Go.Proofs.Ytnldnhmkljfodaa
open Go.RowKit

theorem round_none (ac : Option Addr) (cc : Nat) (n : Int) (w : World) :
    Calls Try.prog 8 #[.slice ac 0 cc, .int .i64 n] w fun r w' => r = .returned (.slice none 0 0) ∧ w = w' := by
  go_enter Try.func8, Try.ntmps8
  go_wp2
  go_ret
  exact ⟨rfl, rfl⟩

set_option maxRecDepth 100000 in
set_option maxHeartbeats 4000000 in
theorem rounds_any (ac : Option Addr) (lc cc : Nat) (n : Int) (c : Nat → Int) (w : World) (h0 : -9223372036854775808 ≤ n) (h1 : n ≤ 9223372036854775807) (hac : SlOk ac lc cc) (hC : RawI w ac lc c) :
    Calls Try.prog 4 #[.slice ac lc cc, .int .i64 n] w fun r w' => r = .returned (.bool true) ∧ Below w.heap.size w w' := by
  have HC := Lib.hid hC
  clear hC
  go_enter Try.func4, Try.ntmps4
  go_upto_region 1 with fail
  go_cut [0, 1] (fun u0 u1 wr => ∃ (m cc' : Nat) (q : Int), u0 = .slice ac m cc' ∧ u1 = .int .i64 q ∧ m ≤ lc ∧ m ≤ 20 ∧ m ≤ cc' ∧ -9223372036854775808 ≤ q ∧ q ≤ 300 ∧ wr = w)
  case first =>
    rcases hac with ⟨rfl, rfl, rfl⟩ | ⟨x, rfl, hcap, hm⟩
    · by_cases h2 : (300 : Int) < n
      all_goals
        go_wp2_with fail
        all_goals
          go_meet
          case rel => exact ⟨0, _, _, rfl, rfl, by omega, by omega, by omega, by omega, by omega, rfl⟩
    · by_cases h2 : (300 : Int) < n <;> by_cases h3 : (20 : Int) < lc
      all_goals
        go_wp2_with fail
        all_goals
          go_meet
          case rel => exact ⟨_, _, _, rfl, rfl, by omega, by omega, by omega, by omega, by omega, rfl⟩
  case rest =>
    obtain ⟨m, cc', q, rfl, rfl, hm, hm2, hmc, hq0, hq1, rfl⟩ := hcut
    have hC' := HC.out.take hm (by omega)
    clear HC hac
    rcases Nat.eq_zero_or_pos m with hm0 | hm0
    · subst hm0
      go_wp2_with (go_at_call 8; refine (round_none _ _ _ _).mono ?_; rintro r w' ⟨rfl, rfl⟩)
      go_loop [25] (fun i => i = .int .i64 0) (fun _ => 0)
      case atStart => exact rfl
      case round =>
        subst hrel
        go_wp2_with (go_at_call 7; refine (lives_any _).mono ?_; rintro r w2 ⟨rfl, hb2⟩)
        go_ret
        exact ⟨rfl, hb2⟩
    · have hne : ((m : Int) == 0) = false := by simp; omega
      rcases hC'.2 with h0 | ⟨b, off, rfl, hb, hc⟩
      · omega
      have HC := Lib.hid hC'
      go_wp2_with fail
      refine (round_any _ _ _ c q _ hq0 (by omega) hm0 hC').mono ?_
      rintro r w1 ⟨v, rfl, hown, hb1⟩
      obtain ⟨N, hN, hcase⟩ : ∃ N, cutN q = N ∧ ((q ≤ 0 ∧ N = 0) ∨ (q = (N : Int) ∧ 0 < N ∧ N ≤ 300)) := by
        refine ⟨cutN q, rfl, ?_⟩
        unfold cutN
        omega
      rw [hN, show (fun i => stepE (c (i % m))) = rnd c m from rfl] at hown
      have HQ := Lib.hid hcase
      have hN3 : N ≤ 300 := by omega
      clear hN hcase
      obtain ⟨a, cap2, rfl, hents⟩ := ents_of_row (by omega) hown
      have hc1 : ∀ k, k < m → w1.cell? ⟨b, off + k, none⟩ = some (.int .i64 (c k)) := fun k hk => (hb1.cell (p := ⟨b, off + k, none⟩) hb).trans (hc k hk)
      have HC1 := Lib.hid hc1
      have HE := Lib.hid hents
      have HB1 := Lib.hid hb1
      clear hown hents hb1 hc hC' hc1
      go_wp2_with fail
      go_loop [25] (fun i => ∃ k : Nat, k ≤ m ∧ i = .int .i64 k ∧ (∀ i, i < k → ∀ j, j < i → c i ≠ c j)) (fun i => m - (intOf i).toNat)
      case atStart => exact ⟨0, Nat.zero_le _, rfl, fun i hi => by omega⟩
      case round =>
        obtain ⟨k, hk, rfl, hd⟩ := hrel
        have HD := Lib.hid hd
        clear hd
        by_cases hlt : k < m
        · have hck := HC1.out k hlt
          go_wp2_with fail
          go_loop [34] (fun i => ∃ j : Nat, j ≤ k ∧ i = .int .i64 j ∧ (∀ i, i < j → c k ≠ c i)) (fun i => k - (intOf i).toNat)
          case atStart => exact ⟨0, Nat.zero_le _, rfl, fun i hi => by omega⟩
          case round =>
            obtain ⟨j, hj, rfl, hdj⟩ := hrel
            have HJ := Lib.hid hdj
            clear hdj
            by_cases hltj : j < k
            · have hcj := HC1.out j (by omega)
              by_cases he : c k = c j
              · have he' : (c k == c j) = true := by simp [he]
                have HH := Lib.hid he
                clear he
                go_wp2_with (go_at_call 7; refine (lives_any _).mono ?_; rintro r w2 ⟨rfl, hb2⟩)
                go_ret
                exact ⟨rfl, HB1.out.trans (hb2.mono HB1.out.size)⟩
              · have he' : (c k == c j) = false := by simpa using he
                have HH := Lib.hid he
                clear he
                go_wp2_with fail
                go_round
                case rel => exact ⟨j + 1, by omega, by go_num, fun i hi => by
                  by_cases h : i = j
                  · subst h; exact HH.out
                  · exact HJ.out i (by omega)⟩
                case measure => simp [intOf]; omega
            · obtain rfl : j = k := by omega
              go_wp2_with fail
              go_round
              case rel => exact ⟨j + 1, by omega, by go_num, fun i hi j2 hj2 => by
                by_cases h : i = j
                · subst h; exact HJ.out j2 hj2
                · exact HD.out i (by omega) j2 hj2⟩
              case measure => simp [intOf]; omega
        · obtain rfl : k = m := by omega
          rcases HQ.out with ⟨hq, rfl⟩ | ⟨rfl, hq, hq3⟩
          · go_wp2_with (go_at_call 7; refine (lives_any _).mono ?_; rintro r w2 ⟨rfl, hb2⟩)
            go_ret
            exact ⟨rfl, HB1.out.trans (hb2.mono HB1.out.size)⟩
          · have hq' : ¬ (N : Int) ≤ 0 := by omega
            go_wp2_with fail
            go_loopw [59] (fun i wr => ∃ j : Nat, j ≤ N ∧ i = .int .i64 j ∧ Below w1.heap.size w1 wr) (fun i _ => N - (intOf i).toNat)
            case atStart => exact ⟨0, Nat.zero_le _, rfl, Below.refl _ _⟩
            case round =>
              obtain ⟨j, hj, rfl, hB⟩ := hrel
              by_cases hltj : j < N
              · rcases HE.out.2 with h0 | ⟨b2, off2, rfl, hb2, hcs⟩
                · omega
                have hs := hB.size
                obtain ⟨c0, c1, c2, c3, c4⟩ := (hcs.below hb2 hB) j hltj
                have hmod : j % k < k := Nat.mod_lt _ hm0
                have hck := (hB.cell (p := ⟨b, off + j % k, none⟩) (by have := HB1.out.size; simp; omega)).trans (HC1.out _ hmod)
                have hbl : b < wr.heap.size := by have := HB1.out.size; omega
                simp only [rnd, stepE] at c0 c1 c2 c3 c4
                clear hcs
                go_wp2_with fail
                go_quiet (fail)
                go_wp2_with fail
                go_roundw
                case rel => exact ⟨j + 1, by omega, by go_num, Below.trans (hB.alloc hs _) ⟨rfl, rfl, rfl, Nat.le_refl _, fun _ _ => rfl⟩⟩
                case measure => simp [intOf]; omega
              · obtain rfl : j = N := by omega
                have HBw := Lib.hid (HB1.out.trans (hB.mono HB1.out.size))
                have hs := HBw.out.size
                have HEw := Lib.hid ((HE.out.below hB).mono hB.size)
                have HCw := Lib.hid ((HC.out.below HBw.out).mono hs)
                have hg := maxGap_le (rnd c k) j c k
                clear hB
                go_wp2_with fail
                refine (window_any _ _ _ _ _ _ (rnd c k) c _ HEw.out HCw.out).mono ?_
                rintro r w2 ⟨rfl, hb2⟩
                have HB2 := Lib.hid (HBw.out.trans (hb2.mono hs))
                have hs2 := hb2.size
                have HE2 := Lib.hid ((HEw.out.below hb2).mono hs2)
                have HC2 := Lib.hid ((HCw.out.below hb2).mono hs2)
                clear hb2
                by_cases hlk : (j : Int) < k
                · go_wp2_with (first | (go_at_call 9; refine (even_any _ _ _ _ _ _ (j / k) (rnd c k) c _ HE2.out HC2.out hm0 (fun i hi => cnt_even hm0 HD.out j i hi)).mono ?_; rintro r w3 ⟨rfl, hb3⟩) | (go_at_call 7; refine (lives_any _).mono ?_; rintro r w4 ⟨rfl, hb4⟩))
                  go_ret
                  exact ⟨rfl, HB2.out.trans ((hb3.trans (hb4.mono hb3.size)).mono (by omega))⟩
                · have hw : (((maxGap (rnd c k) j c k + 1 : Nat) : Int) == (k : Int)) = true := by rw [maxGap_rnd hm0 HD.out j (by omega)]; simp
                  have hw' : ((maxGap (rnd c k) j c k : Int) + 1 == (k : Int)) = true := by simpa using hw
                  go_wp2_with (first | (go_at_call 9; refine (even_any _ _ _ _ _ _ (j / k) (rnd c k) c _ HE2.out HC2.out hm0 (fun i hi => cnt_even hm0 HD.out j i hi)).mono ?_; rintro r w3 ⟨rfl, hb3⟩) | (go_at_call 7; refine (lives_any _).mono ?_; rintro r w4 ⟨rfl, hb4⟩))
                  go_ret
                  exact ⟨rfl, HB2.out.trans ((hb3.trans (hb4.mono hb3.size)).mono (by omega))⟩
end Go.Proofs.Ytnldnhmkljfodaa
