/- What is put in alone comes out by thefts in its order, by pops in the other one: the walk. No condition. -/
import Derived.Test.YtnjondphbfniaaaX
import Derived.Test.YtnjondphbfniaaaT
namespace Go.Proofs.Ytnjondphbfniaaa
open Go.RowKit Go.Deep

def RawI (w : World) (a : Option Addr) (len : Nat) (e : Nat → Int) : Prop := len = 0 ∨ ∃ b off, a = some ⟨b, off, none⟩ ∧ b < w.heap.size ∧ ∀ k, k < len → w.cell? ⟨b, off + k, none⟩ = some (.int .i64 (e k))
def RawB (w : World) (a : Option Addr) (len : Nat) (e : Nat → Bool) : Prop := len = 0 ∨ ∃ b off, a = some ⟨b, off, none⟩ ∧ b < w.heap.size ∧ ∀ k, k < len → w.cell? ⟨b, off + k, none⟩ = some (.bool (e k))

set_option maxRecDepth 100000 in
set_option maxHeartbeats 8000000 in
theorem order_any (a : Option Addr) (len cap0 : Nat) (e : Nat → Int) (ah : Option Addr) (hl capH : Nat) (hw : Nat → Bool) (w : World) (ha : SlOk a len cap0) (hI : RawI w a len e) (hh : SlOk ah hl capH) (hJ : RawB w ah hl hw) :
    Calls Try.prog 5 #[.slice a len cap0, .slice ah hl capH] w fun r w' => r = .returned (.bool true) ∧ Below w.heap.size w w' := by
  have HI := Lib.hid hI
  have HJ := Lib.hid hJ
  have hhl : hl ≤ 9223372036854775807 := by
    rcases hh with ⟨_, rfl, _⟩ | ⟨_, _, h1, h2⟩ <;> omega
  clear hI hJ hh
  go_enter Try.func5, Try.ntmps5
  go_upto_region 1 with fail
  go_cut [0] (fun u1 wr => ∃ (m cap' : Nat), u1 = .slice a m cap' ∧ m ≤ len ∧ m ≤ 60 ∧ w = wr)
  case first =>
    rcases ha with ⟨rfl, rfl, rfl⟩ | ⟨x, rfl, hcap, hm⟩
    · go_wp2_with fail
      go_meet
      case rel => exact ⟨0, _, rfl, by omega, by omega, rfl⟩
    · by_cases h2 : (60 : Int) < len
      all_goals
        go_wp2_with fail
        all_goals
          go_meet
          case rel => exact ⟨_, _, rfl, by omega, by omega, rfl⟩
  case rest =>
    obtain ⟨m, cap', rfl, hm, hm2, rfl⟩ := hcut
    have HO := Lib.hid (show RawI w a m e from by
      rcases HI.out with h | ⟨ob, off, h1, h2, h3⟩
      · exact .inl (by omega)
      · exact .inr ⟨ob, off, h1, h2, fun k hk => h3 k (by omega)⟩)
    clear HI ha
    go_wp2_with fail
    refine (New_any 64 1 _ (by omega) (by omega) (by omega) (by omega)).mono ?_
    rintro r w1 ⟨b, pb, cap, rfl, hb, hpb, hq, hB⟩
    have HB1 := Lib.hid hB
    have HQ1 := Lib.hid hq
    clear hq hB
    go_wp2_with fail
    go_loopw [27] (fun i wr => ∃ k : Nat, k ≤ m ∧ i = .int .i64 k ∧ (∃ D, Full D e k ∧ D.Ok (5 * k) ∧ IsDq wr b pb cap D) ∧ Below w.heap.size w wr) (fun i _ => m - (intOf i).toNat)
    case atStart => exact ⟨0, Nat.zero_le _, rfl, ⟨_, Full.fresh e, Dq.Ok.fresh 64 1, HQ1.out⟩, HB1.out⟩
    case round =>
      clear HQ1 HB1
      obtain ⟨k, hk, rfl, ⟨D, hFu, hok, hq⟩, hB⟩ := hrel
      by_cases hlt : k < m
      · rcases HO.out with hz | ⟨ob, off, rfl, hob, hoc⟩
        · omega
        have c0 := (hB.cell (p := ⟨ob, off + k, none⟩) hob).trans (hoc k hlt)
        obtain ⟨hp1, hp2⟩ := hFu.push (by omega)
        have HP := Lib.hid (Push_any hq hok.n.2 (e k))
        rw [hp1] at HP
        have hok1 := hok.begin 0 1 (e k) (.inl ⟨.inl rfl, rfl⟩)
        have HOK := Lib.hid (fun j => hok1.steps (who := 0) j)
        obtain ⟨D1, hD1⟩ : ∃ D1, (D.begin 0 1 (e k)).2 = D1 := ⟨_, rfl⟩
        rw [hD1] at HP HOK hp2
        have HFU := Lib.hid hp2
        have HBk := Lib.hid hB
        obtain ⟨x, hx⟩ : ∃ x, e k = x := ⟨_, rfl⟩
        rw [hx] at c0 HP
        clear hq hok hFu hp1 hp2 hok1 hD1 hB hoc hx
        go_wp2_with fail
        refine HP.out.mono ?_
        rintro r w2 ⟨rfl, h2, hF⟩
        have HB2 := Lib.hid (both_below HBk.out hb hpb hF)
        have H2 := Lib.hid h2
        clear h2 hF HP HBk c0
        go_wp2_with fail
        go_loopw [35] (fun i wr => ∃ j : Nat, j ≤ 4 ∧ i = .int .i64 j ∧ IsDq wr b pb cap (stepsOf 0 D1 j) ∧ Below w.heap.size w wr) (fun i _ => 4 - (intOf i).toNat)
        case atStart => exact ⟨0, Nat.zero_le _, rfl, H2.out, HB2.out⟩
        case round =>
          clear H2 HB2
          obtain ⟨j, hj, rfl, hq, hB⟩ := hrel
          by_cases hlt4 : j < 4
          · have HS := Lib.hid (Step_any hq (HOK.out j) (by omega) 0)
            have HBk := Lib.hid hB
            obtain ⟨s, hs⟩ : ∃ s, (stepsOf 0 D1 j).step 0 = s := ⟨_, rfl⟩
            have HE := Lib.hid (show stepsOf 0 D1 (j + 1) = s.2.2.2 by rw [← hs]; rfl)
            rw [hs] at HS
            unfold stolenV at HS
            clear hq hB hs
            go_wp2_with fail
            refine HS.out.mono ?_
            rintro r w3 ⟨rfl, h3, hF⟩
            have HB3 := Lib.hid (both_below HBk.out hb hpb hF)
            have H3 := Lib.hid h3
            clear h3 hF
            go_wp2_with fail
            go_roundw
            case rel => exact ⟨j + 1, by omega, by go_num, by rw [HE.out]; exact H3.out, HB3.out⟩
            case measure => simp [intOf]; omega
          · obtain rfl : j = 4 := by omega
            have HQ := Lib.hid hq
            have HB := Lib.hid hB
            clear hq hB
            go_wp2_with fail
            go_roundw
            case rel => exact ⟨k + 1, by omega, by go_num, ⟨_, HFU.out, (HOK.out 4).monoN (by omega), HQ.out⟩, HB.out⟩
            case measure => simp [intOf]; omega
      · obtain rfl : m = k := by omega
        have HA := Lib.hid hFu.alone
        have HOK := Lib.hid hok
        have HQ := Lib.hid hq
        have HB := Lib.hid hB
        clear hFu hok hq hB
        go_wp2_with fail
        go_loopw [8, 9, 45] (fun fr tu i wr => ∃ k : Nat, k ≤ m ∧ i = .int .i64 k ∧ fr = .int .i64 (fromOf hw hl k : Nat) ∧ tu = .int .i64 ((m - (k - fromOf hw hl k) : Nat) : Int) ∧ (∃ D, Alone D e (fromOf hw hl k) (m - (k - fromOf hw hl k)) ∧ D.Ok (5 * m + 7 * k) ∧ IsDq wr b pb cap D) ∧ Below w.heap.size w wr) (fun _ _ i _ => m - (intOf i).toNat)
        case atStart => exact ⟨0, Nat.zero_le _, rfl, rfl, rfl, ⟨_, HA.out, HOK.out, HQ.out⟩, HB.out⟩
        case round =>
          clear HA HOK HQ HB
          obtain ⟨k, hk, rfl, rfl, rfl, ⟨D, hA, hok, hq⟩, hB⟩ := hrel
          have hfk := fromOf_le hw hl k
          have HFO := Lib.hid (show fromOf hw hl (k + 1) = fromOf hw hl k + if k < hl ∧ hw k = true then 1 else 0 from rfl)
          obtain ⟨f, hf⟩ : ∃ f, fromOf hw hl k = f := ⟨_, rfl⟩
          rw [hf] at hA hfk HFO
          try rw [hf]
          clear hf
          obtain ⟨t, ht⟩ : ∃ t, m - (k - f) = t := ⟨_, rfl⟩
          rw [ht] at hA
          try rw [ht]
          have HT := Lib.hid ht
          have hle := hA.le
          by_cases hlt : k < m
          · rcases HO.out with hz | ⟨ob, off, rfl, hob, hoc⟩
            · omega
            have hft : f < t := by omega
            have htm : t ≤ m := by omega
            clear ht
            by_cases hk2 : k < hl
            · rcases HJ.out with hz | ⟨hb2, off2, rfl, hob2, hoc2⟩
              · omega
              have c0 := (hB.cell (p := ⟨hb2, off2 + k, none⟩) hob2).trans (hoc2 k hk2)
              cases hwk : hw k with
              | true =>
                rw [hwk] at c0
                have HTO := Lib.hid (show m - (k + 1 - fromOf hw hl (k + 1)) = t by rw [HFO.out, if_pos ⟨hk2, hwk⟩]; have := HT.out; omega)
                rw [if_pos ⟨hk2, hwk⟩] at HFO
                clear hwk hoc2
                obtain ⟨D', hO, hA'⟩ := hA.steal hft
                have HO1 := Lib.hid (one_any hq hok (by omega) 1)
                have hok' := hok.oneD 1
                rw [hO] at HO1 hok'
                have HL := Lib.hid (fun (w' : World) (hh : IsDq w' b pb cap D') => Len_any hh hok' (by omega))
                rw [hA'.len] at HL
                have HOK' := Lib.hid hok'
                have HA' := Lib.hid hA'
                have HBk := Lib.hid hB
                clear hO hA' hok' hA hok hq hB
                obtain ⟨x, hx⟩ : ∃ x, e f = x := ⟨_, rfl⟩
                rw [hx] at HO1
                have HX := Lib.hid hx
                clear hx
                go_wp2_with fail
                refine HO1.out.mono ?_
                rintro r w3 ⟨rfl, h3, hF3⟩
                have hB3 := both_below HBk.out hb hpb hF3
                have c3 := (hB3.cell (p := ⟨ob, off + f, none⟩) hob).trans (hoc f (by omega))
                rw [HX.out] at c3
                have HB3 := Lib.hid hB3
                have H3 := Lib.hid h3
                clear h3 hF3 HBk hB3 HO1
                go_wp2_with fail
                refine (HL.out _ H3.out).mono ?_
                rintro q w' ⟨rfl, kk, rfl⟩
                go_wp2_with fail
                go_roundw
                case rel => exact ⟨k + 1, by omega, by go_num, by rw [HFO.out]; try go_num, by rw [HTO.out]; try go_num, ⟨D', by rw [HTO.out, HFO.out]; exact HA'.out, HOK'.out.monoN (by omega), H3.out.drewN _⟩, Below.drewN HB3.out _⟩
                case measure => simp [intOf]; omega
              | false =>
                rw [hwk] at c0
                have HTO := Lib.hid (show m - (k + 1 - fromOf hw hl (k + 1)) = t - 1 by rw [HFO.out, if_neg (by rw [hwk]; simp)]; have := HT.out; omega)
                rw [if_neg (by rw [hwk]; simp), Nat.add_zero] at HFO
                clear hwk hoc2
                obtain ⟨D', hO, hA'⟩ := hA.pop hft
                have HO1 := Lib.hid (one_any hq hok (by omega) 0)
                have hok' := hok.oneD 0
                rw [hO] at HO1 hok'
                have HL := Lib.hid (fun (w' : World) (hh : IsDq w' b pb cap D') => Len_any hh hok' (by omega))
                rw [hA'.len] at HL
                have HOK' := Lib.hid hok'
                have HA' := Lib.hid hA'
                have HBk := Lib.hid hB
                clear hO hA' hok' hA hok hq hB
                obtain ⟨x, hx⟩ : ∃ x, e (t - 1) = x := ⟨_, rfl⟩
                rw [hx] at HO1
                have HX := Lib.hid hx
                clear hx
                go_wp2_with fail
                refine HO1.out.mono ?_
                rintro r w3 ⟨rfl, h3, hF3⟩
                have hB3 := both_below HBk.out hb hpb hF3
                have c3 := (hB3.cell (p := ⟨ob, off + (t - 1), none⟩) hob).trans (hoc (t - 1) (by omega))
                rw [HX.out] at c3
                have HB3 := Lib.hid hB3
                have H3 := Lib.hid h3
                clear h3 hF3 HBk hB3 HO1
                go_wp2_with fail
                refine (HL.out _ H3.out).mono ?_
                rintro q w' ⟨rfl, kk, rfl⟩
                go_wp2_with fail
                go_roundw
                case rel => exact ⟨k + 1, by omega, by go_num, by rw [HFO.out]; try go_num, by rw [HTO.out]; try go_num, ⟨D', by rw [HTO.out, HFO.out]; exact HA'.out, HOK'.out.monoN (by omega), H3.out.drewN _⟩, Below.drewN HB3.out _⟩
                case measure => simp [intOf]; omega
            · have HTO := Lib.hid (show m - (k + 1 - fromOf hw hl (k + 1)) = t - 1 by rw [HFO.out, if_neg (fun h => hk2 h.1)]; have := HT.out; omega)
              rw [if_neg (fun h => hk2 h.1), Nat.add_zero] at HFO
              obtain ⟨D', hO, hA'⟩ := hA.pop hft
              have HO1 := Lib.hid (one_any hq hok (by omega) 0)
              have hok' := hok.oneD 0
              rw [hO] at HO1 hok'
              have HL := Lib.hid (fun (w' : World) (hh : IsDq w' b pb cap D') => Len_any hh hok' (by omega))
              rw [hA'.len] at HL
              have HOK' := Lib.hid hok'
              have HA' := Lib.hid hA'
              have HBk := Lib.hid hB
              clear hO hA' hok' hA hok hq hB
              obtain ⟨x, hx⟩ : ∃ x, e (t - 1) = x := ⟨_, rfl⟩
              rw [hx] at HO1
              have HX := Lib.hid hx
              clear hx
              go_wp2_with fail
              refine HO1.out.mono ?_
              rintro r w3 ⟨rfl, h3, hF3⟩
              have hB3 := both_below HBk.out hb hpb hF3
              have c3 := (hB3.cell (p := ⟨ob, off + (t - 1), none⟩) hob).trans (hoc (t - 1) (by omega))
              rw [HX.out] at c3
              have HB3 := Lib.hid hB3
              have H3 := Lib.hid h3
              clear h3 hF3 HBk hB3 HO1
              go_wp2_with fail
              refine (HL.out _ H3.out).mono ?_
              rintro q w' ⟨rfl, kk, rfl⟩
              go_wp2_with fail
              go_roundw
              case rel => exact ⟨k + 1, by omega, by go_num, by rw [HFO.out]; try go_num, by rw [HTO.out]; try go_num, ⟨D', by rw [HTO.out, HFO.out]; exact HA'.out, HOK'.out.monoN (by omega), H3.out.drewN _⟩, Below.drewN HB3.out _⟩
              case measure => simp [intOf]; omega
          · have htf : f = t := by omega
            have hE := hA.empty_eq htf
            have HO1 := Lib.hid (one_any hq hok (by omega) 1)
            obtain ⟨q, hq1⟩ : ∃ q, oneD D 1 = q := ⟨_, rfl⟩
            rw [hq1] at HO1 hE
            obtain ⟨q1, q2, q3⟩ := q
            simp only at hE
            subst hE
            have HBk := Lib.hid hB
            clear ht htf hq1 hA hok hq hB
            go_wp2_with fail
            refine HO1.out.mono ?_
            rintro r w3 ⟨rfl, h3, hF3⟩
            have HB3 := Lib.hid (both_below HBk.out hb hpb hF3)
            clear h3 hF3 HBk HO1
            go_wp2_with fail
            refine (Step_nil 0 _).mono ?_
            rintro r w4 ⟨rfl, hb4⟩
            have HB4 := Lib.hid (HB3.out.trans (hb4.mono HB3.out.size))
            clear hb4 HB3
            unfold stolenV
            go_wp2_with fail
            refine (Push_nil _ _).mono ?_
            rintro r w5 ⟨rfl, rfl⟩
            go_wp2_with fail
            refine (Busy_nil _ _).mono ?_
            rintro r w5 ⟨rfl, rfl⟩
            go_wp2_with fail
            refine (Len_nil _).mono ?_
            rintro r w5 ⟨rfl, rfl⟩
            go_wp2_with fail
            refine (lives_any _).mono ?_
            rintro r w5 ⟨rfl, hb5⟩
            have HB5 := Lib.hid ((HB4.out.alloc HB4.out.size _).trans (hb5.mono (HB4.out.alloc HB4.out.size _).size))
            clear hb5
            go_wp2_with fail
            go_ret
            exact ⟨rfl, HB5.out⟩
end Go.Proofs.Ytnjondphbfniaaa
