/- A task that has exited stays as it is, whatever is done: the walk of TableStays. No condition. -/
import Derived.Test.YtedhhohnbekelaaSa
import Derived.IntWalk
namespace Go.Proofs.Ytedhhohnbekelaa
open Go.RowKit Go.Deep

theorem addD_first (code : Int) : addD 0 256 (fun _ => tk0) (smX code) = (0, 0, 1, updT (fun _ => tk0) 0 (smX code)) := by
  unfold addD
  rw [if_neg (by rw [may_smX]; simp), if_neg (by omega)]
  rfl

theorem addD_ok {n room : Nat} {ts : Nat → Tk} {t : Tk} : ((addD n room ts t).2.1 = 0 ∧ (addD n room ts t).1 = n ∧ (addD n room ts t).2.2.1 = n + 1) ∨ ((addD n room ts t).2.1 ≠ 0 ∧ (addD n room ts t).2.2.1 = n) := by
  unfold addD
  split
  · exact .inr ⟨by simp, rfl⟩
  · split
    · exact .inr ⟨by simp, rfl⟩
    · exact .inl ⟨rfl, rfl, rfl⟩

/-- The slots and the world at the loop's head. -/
def StaysAt (w0 w : World) (base tb c bn bl : Nat) (vn vl : Value) (X : Nat) (x : Tk) (n : Value) : Prop :=
  ∃ (d : Tb) (lv : Value), n = .int .i64 (d.n : Nat) ∧ 0 < d.n ∧ d.ts 0 = x ∧ Stays w0 w base tb c bn bl vn vl lv X x d

set_option maxRecDepth 100000 in
set_option maxHeartbeats 4000000 in
theorem stays_any (a : Option Addr) (len cap0 : Nat) (code : Int) (e : Nat → Opn) (w : World) (ha : SlOk a len cap0) (hI : RawO w a len e) :
    Calls Try.prog 3 #[.slice a len cap0, .int .i64 code] w fun r w' => r = .returned (.bool true) ∧ Below w.heap.size w w' := by
  have HI := Lib.hid hI
  have hz := zero30
  have z1 := size30 tk0
  have z3 : (tkArr tk0).size = (tkArr smT).size := by rw [tkArr_size, tkArr_size]
  have s1 := size30 smT
  have s2 := one30 smT
  have HS := Lib.hid (fun w => some_any w)
  unfold tkV at HS
  obtain ⟨Z, hZ⟩ : ∃ Z, Z = tkArr tk0 := ⟨_, rfl⟩
  obtain ⟨V, hV⟩ : ∃ V, V = tkArr smT := ⟨_, rfl⟩
  simp only [← hZ] at hz z1 z3
  rw [← hV] at z3 s1 s2 HS
  have HVV := Lib.hid hV
  clear hI hZ hV
  have hr256 : roomOf 256 = 256 := by decide
  have HR256 := Lib.hid hr256
  clear hr256
  go_enter Try.func3, Try.ntmps3
  go_upto_region 1 with fail
  go_cut [0] (fun u1 wr => ∃ (m cap' : Nat), u1 = .slice a m cap' ∧ m ≤ len ∧ m ≤ 50 ∧ w = wr)
  case first =>
    rcases ha with ⟨rfl, rfl, rfl⟩ | ⟨x, rfl, hcap, hm⟩
    · go_wp2_with fail
      go_meet
      case rel => exact ⟨0, _, rfl, by omega, by omega, rfl⟩
    · by_cases h2 : (50 : Int) < len
      all_goals
        go_wp2_with fail
        all_goals
          go_meet
          case rel => exact ⟨_, _, rfl, by omega, by omega, rfl⟩
  case rest =>
    obtain ⟨m, cap', rfl, hm, hm2, rfl⟩ := hcut
    have HO := Lib.hid (HI.out.take hm)
    clear HI ha
    go_wp2_with fail
    refine (TNew_any 256 _ (by omega) (by omega)).mono ?_
    rw [HR256.out]
    rintro r w1 ⟨base, tb, c, bn, bl, vn, vl, rfl, htb, hc, hbn, hbl, hT, hB⟩
    have HB1 := Lib.hid hB
    have HT1 := Lib.hid hT
    clear hT hB
    go_wp2_with fail
    refine (HS.out _).mono ?_
    rintro r w2 ⟨rfl, hb⟩
    have HT2 := Lib.hid (HT1.out.below hb)
    have HB2 := Lib.hid (HB1.out.trans (hb.mono HB1.out.size))
    clear hb HT1 HB1
    go_upto_region 4 with (refine wpList_store_row rfl 30 _ _ rfl w2.heap.size V rfl rfl 30 Z (heap_alloc_new _ _) s1 z3 s2 ?_; rw [setRow_new])
    have hc25 : V[25]? = some (.int .i64 7) := by rw [HVV.out, tkArr_at _ (by omega)]; rfl
    have hc26 : V[26]? = some (.int .i64 0) := by rw [HVV.out, tkArr_at _ (by omega)]; rfl
    go_upto_region 6 with fail
    have HX := Lib.hid (show (V.setIfInBounds 25 (Value.int IntKind.i64 8)).setIfInBounds 26 (Value.int IntKind.i64 code) = tkArr (smX code) by rw [HVV.out]; exact arr_smX code)
    obtain ⟨U, hU⟩ : ∃ U, (V.setIfInBounds 25 (Value.int IntKind.i64 8)).setIfInBounds 26 (Value.int IntKind.i64 code) = U := ⟨_, rfl⟩
    rw [hU] at HX
    obtain ⟨w3, hw3⟩ : ∃ w3, w2.alloc (.cells U 30) = w3 := ⟨_, rfl⟩
    obtain ⟨X, hX⟩ : ∃ X, w2.heap.size = X := ⟨_, rfl⟩
    have HS3 := Lib.hid (show Stays w w3 base tb c bn bl vn vl (.slice none 0 0) X (smX code) ⟨0, fun _ => tk0, fun _ => []⟩ from by
      rw [← hw3, ← hX]
      exact ⟨HT2.out.alloc _, fun g hg => (by cases hg), (by rw [← HX.out]; exact heap_alloc_new _ _), HB2.out.alloc HB2.out.size _, HT2.out.low.2.2.2, htb, hbn, hbl⟩)
    have u1 := size30 (smX code)
    rw [← HX.out] at u1
    have HA := Lib.hid (SAdd_any HS3.out (smX code))
    rw [addD_first] at HA
    unfold tkV at HA
    rw [← HX.out] at HA
    have hb3 := HS3.out.blk
    rw [← HX.out] at hb3
    have HB3 := Lib.hid hb3
    rw [hU, hw3, hX]
    clear hU hw3 hX hc25 hc26 HT2 HB2 HS hz z1 z3 s1 s2 HVV hb3 HS3
    go_wp2_with (refine wpList_load_row rfl 30 _ rfl X rfl 30 U (0, 0) _ HB3.out Try.underlying30 rfl u1 ?_)
    refine HA.out.mono ?_
    rintro r w4 ⟨rfl, lv4, hS⟩
    have HS4 := Lib.hid hS
    clear hS HA HB3
    go_wp2_with fail
    go_loopw [9, 40] (fun n s wr => ∃ k : Nat, k ≤ m ∧ s = .int .i64 k ∧ StaysAt w wr base tb c bn bl vn vl X (smX code) n) (fun _ s _ => m - (intOf s).toNat)
    case atStart => exact ⟨0, Nat.zero_le _, rfl, ⟨1, updT (fun _ => tk0) 0 (smX code), fun _ => []⟩, lv4, rfl, Nat.zero_lt_one, updT_same (fun _ => tk0) 0 (smX code), HS4.out⟩
    case round =>
      clear HS4
      obtain ⟨k, hk, rfl, d, lv, rfl, hn, hx, hS⟩ := hrel
      have HSx := Lib.hid hS
      have HN := Lib.hid hn
      have HXX := Lib.hid hx
      clear hS hn hx
      by_cases hlt : k < m
      · have hltI : (k : Int) < m := by omega
        rcases HO.out with hz | ⟨ob, off, rfl, hob, hoc, hor⟩
        · omega
        have h0 := hor k hlt
        have hr := rangeAt_below hob HSx.out.bel (hoc k hlt)
        have hbl2 : ob < wr.heap.size := by have := HSx.out.bel.size; omega
        have zz := zero37
        have q1 := size37L (e k)
        have q2 := size37 (e k)
        have q3 : (opArr op0).size = (opArr (e k)).size := by rw [opArr_size, opArr_size]
        have q4 := one37 (e k)
        have q5 : (opL (e k)).toArray = opArr (e k) := rfl
        have HFST := Lib.hid (fun (t : Tk) => @addD_ok d.n 256 d.ts t)
        generalize e k = o at *
        obtain ⟨K, t, id, on⟩ := o
        obtain ⟨OA, hOA⟩ : ∃ OA, OA = opArr ⟨K, t, id, on⟩ := ⟨_, rfl⟩
        obtain ⟨OL, hOL⟩ : ∃ OL, OL = opL ⟨K, t, id, on⟩ := ⟨_, rfl⟩
        obtain ⟨Z, hZ⟩ : ∃ Z, Z = opArr op0 := ⟨_, rfl⟩
        rw [← hOA] at q2 q3 q4 q5
        rw [← hOL] at q1 q5 hr
        simp only [← hZ] at zz q3
        have HR := Lib.hid hr
        have HOA := Lib.hid hOA
        simp only at h0
        have HN0 := Lib.hid h0
        have HOB := Lib.hid (And.intro hob (And.intro hoc hor))
        clear hr hOA hOL hZ hoc hor hob h0
        go_upto_region 13 with (first | (refine wpList_load_mid rfl 37 _ rfl ob (off + k * 32) rfl OL _ HR.out Try.underlying37 rfl q1 ?_; rw [q5]) | (refine wpList_store_row rfl 37 _ _ rfl wr.heap.size OA rfl rfl 37 Z (heap_alloc_new _ _) q2 q3 q4 ?_; rw [setRow_new]))
        obtain ⟨W1, hW1⟩ : ∃ W1, wr.alloc (.cells OA 37) = W1 := ⟨_, rfl⟩
        obtain ⟨A, hA⟩ : ∃ A, wr.heap.size = A := ⟨_, rfl⟩
        have HS1 := Lib.hid (show Stays w W1 base tb c bn bl vn vl lv X (smX code) d by rw [← hW1]; exact HSx.out.alloc _)
        have HO1 := Lib.hid (show OpAt W1 A ⟨K, t, id, on⟩ by
          unfold OpAt
          rw [← hW1, ← hA, ← HOA.out]
          exact heap_alloc_new _ _)
        rw [hW1, hA]
        clear hW1 hA HSx zz q1 q2 q3 q4 q5 HR
        have c0 := HO1.out.c0
        have c30 := HO1.out.c30
        have c31 := HO1.out.c31
        have t1 : (Try.prog.info? 30).map (·.size) = some (tkArr t).toList.length := by rw [Array.length_toList]; exact size30 _
        have ht := HO1.out.task
        obtain ⟨TA, hTA⟩ : ∃ TA, TA = tkArr t := ⟨_, rfl⟩
        simp only at c0 c30 c31 ht
        rw [← hTA] at t1 ht
        have HT := Lib.hid ht
        have HTA := Lib.hid hTA
        clear ht hTA hlt
        have h0 := HN0.out
        by_cases k0 : K % 3 = 0
        · have HAD := Lib.hid (SAdd_any HS1.out t)
          have HST := Lib.hid (stay_first (room := 256) ⟨K, t, id, on⟩ HN.out (by rw [HXX.out]; rfl))
          rw [show stayD 256 d ⟨K, t, id, on⟩ = ⟨(addD d.n 256 d.ts t).2.2.1, (addD d.n 256 d.ts t).2.2.2, d.R⟩ by unfold stayD; rw [if_pos k0]] at HST
          have HF := Lib.hid (HFST.out t)
          obtain ⟨q, hq⟩ : ∃ q, addD d.n 256 d.ts t = q := ⟨_, rfl⟩
          rw [hq] at HAD HST HF
          obtain ⟨ak, af, n', ts'⟩ := q
          simp only at HAD HST HF
          unfold tkV at HAD
          rw [← HTA.out] at HAD
          clear hq HFST
          have e0 : (K % 3 == 0) = true := by simp [k0]
          clear k0
          rcases HF.out with ⟨rfl, rfl, rfl⟩ | ⟨hf, rfl⟩
          · clear HF
            go_wp2_with (refine wpList_load_mid rfl 30 _ rfl A 1 rfl TA.toList _ HT.out Try.underlying30 rfl t1 ?_; rw [Array.toArray_toList])
            refine HAD.out.mono ?_
            rintro r W2 ⟨rfl, lv2, hS2⟩
            have HS2 := Lib.hid hS2
            have hmost : d.n + 1 ≤ 256 := hS2.tab.most.1
            clear hS2 HAD
            go_wp2_with fail
            go_roundw
            case rel => exact ⟨k + 1, by omega, by go_num, ⟨d.n + 1, ts', d.R⟩, lv2, by go_num, HST.out.1, HST.out.2.trans HXX.out, HS2.out⟩
            case measure => simp [intOf]; omega
          · have f0 : (af == 0) = false := by simpa using hf
            clear HF hf
            go_wp2_with (refine wpList_load_mid rfl 30 _ rfl A 1 rfl TA.toList _ HT.out Try.underlying30 rfl t1 ?_; rw [Array.toArray_toList])
            refine HAD.out.mono ?_
            rintro r W2 ⟨rfl, lv2, hS2⟩
            have HS2 := Lib.hid hS2
            clear hS2 HAD
            go_wp2_with fail
            go_roundw
            case rel => exact ⟨k + 1, by omega, by go_num, ⟨d.n, ts', d.R⟩, lv2, rfl, HST.out.1, HST.out.2.trans HXX.out, HS2.out⟩
            case measure => simp [intOf]; omega
        · by_cases k1 : K % 3 = 1
          · have HAD := Lib.hid (SSet_any HS1.out id t)
            have HST := Lib.hid (stay_first (room := 256) ⟨K, t, id, on⟩ HN.out (by rw [HXX.out]; rfl))
            rw [show stayD 256 d ⟨K, t, id, on⟩ = ⟨d.n, (setD d.n d.ts id t).2, d.R⟩ by unfold stayD; rw [if_neg k0, if_pos k1]] at HST
            unfold tkV at HAD
            rw [← HTA.out] at HAD
            have e0 : (K % 3 == 0) = false := by simp [k0]
            have e1 : (K % 3 == 1) = true := by simp [k1]
            clear k0 k1 HFST
            go_wp2_with (refine wpList_load_mid rfl 30 _ rfl A 1 rfl TA.toList _ HT.out Try.underlying30 rfl t1 ?_; rw [Array.toArray_toList])
            refine HAD.out.mono ?_
            rintro r W2 ⟨rfl, hS2⟩
            have HS2 := Lib.hid hS2
            clear hS2 HAD
            go_wp2_with fail
            go_roundw
            case rel => exact ⟨k + 1, by omega, by go_num, ⟨d.n, (setD d.n d.ts id t).2, d.R⟩, lv, rfl, HST.out.1, HST.out.2.trans HXX.out, HS2.out⟩
            case measure => simp [intOf]; omega
          · have HAD := Lib.hid (SJoin_any HS1.out id on)
            have e0 : (K % 3 == 0) = false := by simp [k0]
            have e1 : (K % 3 == 1) = false := by simp [k1]
            clear k0 k1 HFST
            go_wp2_with fail
            refine HAD.out.mono ?_
            rintro r W2 ⟨rfl, hS2⟩
            have HS2 := Lib.hid hS2
            clear hS2 HAD
            go_wp2_with fail
            go_roundw
            case rel => exact ⟨k + 1, by omega, by go_num, ⟨d.n, d.ts, (joinD d.n 256 d.ts d.R id on).2⟩, lv, rfl, HN.out, HXX.out, HS2.out⟩
            case measure => simp [intOf]; omega
      · obtain rfl : k = m := by omega
        clear hlt HO
        have hg0 : getD d.n d.ts 0 = (true, smX code) := by
          unfold getD
          rw [if_pos ⟨by omega, by have := HN.out; omega⟩]
          exact Prod.ext rfl HXX.out
        have HG := Lib.hid (TGet_any HSx.out.tab 0)
        rw [hg0] at HG
        have HE := fun w => eq_tk_same (smX code) w
        unfold tkV at HG HE
        have zz := zero30
        have z3 : (tkArr tk0).size = (tkArr (smX code)).size := by rw [tkArr_size, tkArr_size]
        have s2 := one30 (smX code)
        rw [← HX.out] at HG s2 z3
        simp only [← HX.out] at HE
        obtain ⟨Z, hZ⟩ : ∃ Z, Z = tkArr tk0 := ⟨_, rfl⟩
        simp only [← hZ] at zz z3
        clear hZ hg0
        go_wp2_with fail
        refine HG.out.mono ?_
        rintro r w5 ⟨rfl, hb⟩
        have HS5 := Lib.hid (HSx.out.below hb)
        clear hb HG HSx
        go_upto_region 25 with (refine wpList_store_row rfl 30 _ _ rfl w5.heap.size U rfl rfl 30 Z (heap_alloc_new _ _) u1 z3 s2 ?_; rw [setRow_new])
        obtain ⟨w6, hw6⟩ : ∃ w6, w5.alloc (.cells U 30) = w6 := ⟨_, rfl⟩
        obtain ⟨B, hB⟩ : ∃ B, w5.heap.size = B := ⟨_, rfl⟩
        have HS6 := Lib.hid (show Stays w w6 base tb c bn bl vn vl lv X (smX code) d by rw [← hw6]; exact HS5.out.alloc _)
        have HBB := Lib.hid (show w6.heap[B]? = some (.cells U 30 (0, 0)) by rw [← hw6, ← hB]; exact heap_alloc_new _ _)
        have hXX := HS6.out.blk
        rw [← HX.out] at hXX
        have HXB := Lib.hid hXX
        rw [hw6, hB]
        clear hw6 hB HS5 zz z3 s2 hXX
        have HL := Lib.hid (TLen_any HS6.out.tab)
        have HJ := Lib.hid (SJoin_any HS6.out 0 0)
        rw [show joinD d.n 256 d.ts d.R 0 0 = (1, d.R) by unfold joinD; rw [if_neg (fun h => h ⟨⟨by omega, by have := HN.out; omega⟩, by omega, by have := HN.out; omega⟩), if_pos rfl]] at HJ
        go_wp2_with (first | (refine wpList_load_want 30 (.tmp 14) rfl B rfl 30 U (0, 0) _ HBB.out Try.underlying30 rfl u1 (by first | rfl | simp [Region.wanted, yielded]) ?_) | (refine wpList_load_want 30 (.tmp 6) rfl X rfl 30 U (0, 0) _ HXB.out Try.underlying30 rfl u1 (by first | rfl | simp [Region.wanted, yielded]) ?_))
        refine HL.out.mono ?_
        rintro r w' ⟨rfl, rfl⟩
        go_wp2_with fail
        refine HJ.out.mono ?_
        rintro r w7 ⟨rfl, hS7⟩
        have HS7 := Lib.hid hS7
        clear hS7 HJ HL HS6
        go_wp2_with fail
        refine (lives_any _).mono ?_
        rintro r w8 ⟨rfl, hb⟩
        have HB8 := Lib.hid (HS7.out.bel.trans (hb.mono HS7.out.bel.size))
        clear hb HS7
        go_wp2_with fail
        go_ret
        exact ⟨rfl, HB8.out⟩
end Go.Proofs.Ytedhhohnbekelaa
