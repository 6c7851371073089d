/- Bubbles are made just up to their limit: the walk of BubbleMany. No condition. -/
import Derived.Test.YtmbdhpibkhgkcaaQ
namespace Go.Proofs.Ytmbdhpibkhgkcaa
open Go.RowKit

theorem mk_one : ∀ k, k < 40 → eqW (mkW [k]) ws0 = false := by decide +kernel

/-- The forest at the loop's head. -/
def ManyAt (w : World) (base fb k : Nat) (wr : World) : Prop :=
  ∃ lv bs, IsFo wr base fb lv (min k 32) bs ∧ (∀ i, i < min k 32 → bs i 17 = 1) ∧ Below w.heap.size w wr

theorem many_make {k : Nat} {bs : Nat → Bk} (hk : k < 40) (h1 : ∀ i, i < min k 32 → bs i 17 = 1) : makeD (min k 32) bs ((k : Int) % 3 - 1) (mkW [k]) = if k < 32 then ((k : Int), 0, k + 1, updT bs k (newB ((k : Int) % 3 - 1) (mkW [k]))) else (0, 4, 32, bs) := by
  unfold makeD
  rw [if_neg (by omega), if_neg (by rw [mk_one k hk]; simp)]
  by_cases h3 : (k : Int) % 3 - 1 = -1
  · rw [if_neg (fun h => h.1 h3)]
    by_cases h : k < 32
    · rw [if_neg (by omega), if_pos h, show min k 32 = k by omega]
    · rw [if_pos (by omega), if_neg h, show min k 32 = 32 by omega]
  · rw [if_neg (fun h => h.2 (h1 _ (by omega)))]
    by_cases h : k < 32
    · rw [if_neg (by omega), if_pos h, show min k 32 = k by omega]
    · rw [if_pos (by omega), if_neg h, show min k 32 = 32 by omega]

set_option maxRecDepth 100000 in
set_option maxHeartbeats 4000000 in
theorem many_any (n0 : Int) (w : World) : Calls Try.prog 3 #[.int .i64 n0] w fun r w' => r = .returned (.bool true) ∧ Below w.heap.size w w' := by
  have HMK := Lib.hid (fun (k : Nat) (hk : k < 1024) (w : World) => Make01_any (sl1 w k) (l := [k]) (by intro x hx; simp at hx; omega) (by simp))
  have hz := zero35
  have z1 := size35 bk0
  have z2 := one35 bk0
  unfold wsV at HMK
  obtain ⟨Z, hZ⟩ : ∃ Z, Z = buArr bk0 := ⟨_, rfl⟩
  simp only [← hZ] at hz
  rw [← hZ] at z1 z2
  have HZ := Lib.hid hZ
  clear hZ
  go_enter Try.func3, Try.ntmps3
  go_upto_region 1 with fail
  go_cut [0] (fun u1 wr => ∃ m : Nat, u1 = .int .i64 m ∧ m ≤ 40 ∧ w = wr)
  case first =>
    by_cases h1 : 40 < n0
    · go_wp2_with fail
      go_meet
      case rel => exact ⟨40, rfl, by omega, rfl⟩
    · by_cases h2 : 0 < n0
      · obtain ⟨n1, rfl⟩ := Int.eq_ofNat_of_zero_le (show 0 ≤ n0 by omega)
        go_wp2_with fail
        go_meet
        case rel => exact ⟨n1, rfl, by omega, rfl⟩
      · go_wp2_with fail
        go_meet
        case rel => exact ⟨0, rfl, by omega, rfl⟩
  case rest =>
    obtain ⟨m, rfl, hm40, rfl⟩ := hcut
    go_wp2_with fail
    refine (FNew_any _).mono ?_
    rintro r w1 ⟨base, fb, rfl, hfb, hT, hB⟩
    have HP1 := Lib.hid (show ManyAt w base fb 0 w1 from ⟨_, _, hT, fun i hi => by omega, hB⟩)
    have HFB := Lib.hid hfb
    clear hT hB hfb
    go_wp2_with fail
    go_loopw [19] (fun s wr => ∃ k : Nat, k ≤ m ∧ s = .int .i64 k ∧ ManyAt w base fb k wr) (fun s _ => m - (intOf s).toNat)
    case atStart => exact ⟨0, Nat.zero_le _, rfl, HP1.out⟩
    case round =>
      clear HP1
      obtain ⟨k, hk, rfl, lv, bs, hT, h1, hB⟩ := hrel
      by_cases hlt : k < m
      · have hltI : (k : Int) < m := by omega
        have HT := Lib.hid (hT.alloc (.cells #[.int .i64 k] 3))
        have HB := Lib.hid (hB.alloc hB.size (.cells #[.int .i64 k] 3))
        have HKM := Lib.hid (HMK.out k (by omega) wr)
        have HMA := Lib.hid (fun (w' : World) (hh : IsFo w' base fb lv (min k 32) bs) => FMake_any hh ((k : Int) % 3 - 1) (mkW [k]))
        rw [many_make (by omega) h1] at HMA
        have H1 := Lib.hid h1
        unfold wsV at HMA
        generalize hS : wsArr (mkW [k]) = S at *
        clear hT hB h1 hS
        have hwr : IntKind.i64.wrap ((k : Int) % 3 - 1) = (k : Int) % 3 - 1 := IntWalk.i64_in _ (by omega)
        by_cases h32 : k < 32
        · have h32I : (k : Int) < 32 := by omega
          simp only [h32, if_true, ite_true] at HMA
          generalize hu : (k : Int) % 3 - 1 = u at *
          go_wp2_with fail
          refine HKM.out.mono ?_
          rintro r w2 ⟨rfl, hb⟩
          have HT2 := Lib.hid (HT.out.below hb)
          have HB2 := Lib.hid (HB.out.trans (hb.mono HB.out.size))
          clear hb
          go_wp2_with fail
          refine (HMA.out _ HT2.out).mono ?_
          rintro r w3 ⟨rfl, lv', hT3, hF3, -⟩
          simp only at hT3
          have HT3 := Lib.hid hT3
          have HB3 := Lib.hid (fo_below HB2.out HT2.out HB2.out.size HFB.out hF3)
          clear hT3 hF3 HT2 HB2 HMA
          have hkk : ((k : Int) != (k : Int)) = false := by simp
          go_wp2_with fail
          go_roundw
          case rel =>
            refine ⟨k + 1, by omega, by go_num, lv', updT bs k (newB u (mkW [k])), by rw [show min (k + 1) 32 = k + 1 by omega]; exact HT3.out, fun i hi => ?_, HB3.out⟩
            by_cases e : i = k
            · subst e; rw [updT_same]; rfl
            · rw [updT_other _ _ e]; exact H1.out i (by omega)
          case measure => simp [intOf]; omega
        · have h32I : ¬ (k : Int) < 32 := by omega
          have h32J : (32 : Int) ≤ k := by omega
          simp only [h32, if_false, ite_false] at HMA
          generalize hu : (k : Int) % 3 - 1 = u at *
          go_wp2_with fail
          refine HKM.out.mono ?_
          rintro r w2 ⟨rfl, hb⟩
          have HT2 := Lib.hid (HT.out.below hb)
          have HB2 := Lib.hid (HB.out.trans (hb.mono HB.out.size))
          clear hb
          go_wp2_with fail
          refine (HMA.out _ HT2.out).mono ?_
          rintro r w3 ⟨rfl, lv', hT3, hF3, -⟩
          simp only at hT3
          have HT3 := Lib.hid hT3
          have HB3 := Lib.hid (fo_below HB2.out HT2.out HB2.out.size HFB.out hF3)
          clear hT3 hF3 HT2 HB2 HMA
          go_wp2_with fail
          go_roundw
          case rel => exact ⟨k + 1, by omega, by go_num, lv', bs, by rw [show min (k + 1) 32 = 32 by omega]; exact HT3.out, fun i hi => H1.out i (by omega), HB3.out⟩
          case measure => simp [intOf]; omega
      · obtain rfl : k = m := by omega
        have HT := Lib.hid (hT.alloc (.cells #[.int .i64 1] 3))
        have HB := Lib.hid (hB.alloc hB.size (.cells #[.int .i64 1] 3))
        have HKM := Lib.hid (HMK.out 1 (by omega) wr)
        have HNIL := Lib.hid (fun w => FMake_nil (mkW [1]) (mk_one 1 (by omega)) w)
        have HMD := Lib.hid (show maskD (min k 32) bs (-1) = wsAll from maskI_no (by unfold isB; simp) _ _)
        have HEQ := fun w => eql_ws wsAll wsAll w
        rw [eqW_self] at HEQ
        unfold wsV at HNIL HEQ
        have HG0 := Lib.hid (fun w => FGet_nil 0 w)
        unfold buV at HG0
        rw [← HZ.out] at HG0
        have hmn : (if (32 : Int) < k then (32 : Int) else k) = ((min k 32 : Nat) : Int) := by split <;> omega
        clear hT hB h1 hlt HMK
        go_wp2_with fail
        refine HKM.out.mono ?_
        rintro r w2 ⟨rfl, hb⟩
        have HT2 := Lib.hid (HT.out.below hb)
        have HB2 := Lib.hid (HB.out.trans (hb.mono HB.out.size))
        clear hb HT HB HKM
        go_wp2_with fail
        refine (HNIL.out _).mono ?_
        rintro r w3 ⟨rfl, hb⟩
        have HT3 := Lib.hid (HT2.out.below hb)
        have HB3 := Lib.hid (HB2.out.trans (hb.mono HB2.out.size))
        clear hb HT2 HB2
        go_wp2_with fail
        refine (FBurst_nil 0 _).mono ?_
        rintro r w4 ⟨rfl, hb⟩
        have HT4 := Lib.hid (HT3.out.below hb)
        have HB4 := Lib.hid (HB3.out.trans (hb.mono HB3.out.size))
        clear hb HT3 HB3
        go_wp2_with fail
        refine (HG0.out _).mono ?_
        rintro r w5 ⟨rfl, hb⟩
        have HT5 := Lib.hid ((HT4.out.below hb).alloc (.cells Z 35))
        have HB5 := Lib.hid ((HB4.out.trans (hb.mono HB4.out.size)).alloc (Nat.le_trans HB4.out.size hb.size) (.cells Z 35))
        clear hb HT4 HB4
        go_upto_region 14 with (refine wpList_store_row rfl 35 _ _ rfl w5.heap.size Z rfl rfl 35 Z (heap_alloc_new _ _) z1 rfl z2 ?_; rw [setRow_new])
        obtain ⟨w6, hw6⟩ : ∃ w6, w5.alloc (.cells Z 35) = w6 := ⟨_, rfl⟩
        rw [hw6] at HT5 HB5
        rw [hw6]
        clear hw6
        go_wp2_with fail
        refine (FLen_any HT5.out).mono ?_
        rintro r w' ⟨rfl, rfl⟩
        go_wp2_with fail
        refine (FLen_nil _).mono ?_
        rintro r w' ⟨rfl, rfl⟩
        go_wp2_with fail
        refine (FFree_nil _ _).mono ?_
        rintro r w' ⟨rfl, rfl⟩
        go_wp2_with fail
        refine (FFree_nil _ _).mono ?_
        rintro r w' ⟨rfl, rfl⟩
        go_wp2_with fail
        refine (FMask_any HT5.out (-1)).mono ?_
        rintro r w7 ⟨rfl, hb⟩
        have HB7 := Lib.hid (HB5.out.trans (hb.mono HB5.out.size))
        rw [HMD.out]
        clear hb
        go_wp2_with fail
        refine (FMask_nil 5 _).mono ?_
        rintro r w8 ⟨rfl, hb⟩
        have HB8 := Lib.hid (HB7.out.trans (hb.mono HB7.out.size))
        clear hb HB7
        unfold wsV
        go_wp2_with fail
        refine (lives_any _).mono ?_
        rintro r w9 ⟨rfl, hb⟩
        have HB9 := Lib.hid (HB8.out.trans (hb.mono HB8.out.size))
        clear hb HB8
        go_wp2_with fail
        go_ret
        exact ⟨rfl, HB9.out⟩
end Go.Proofs.Ytmbdhpibkhgkcaa
