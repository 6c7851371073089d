/- The document's example of layer 28 is as it says. No condition. -/
import Derived.Test.YtnjondphbfniaaaR
namespace Go.Proofs.Ytnjondphbfniaaa
open Go.RowKit

/-- Steps of one party. -/
def stepsOf (who : Int) (d : Dq) : Nat → Dq
  | 0 => d
  | n + 1 => ((stepsOf who d n).step who).2.2.2

theorem Dq.Ok.steps {who : Int} {d : Dq} {K : Nat} (h : d.Ok K) : ∀ n, (stepsOf who d n).Ok (K + n)
  | 0 => h
  | n + 1 => (h.steps n).step who

/-- Rounds of both parties. -/
def roundsOf (d : Dq) : Nat → Dq
  | 0 => d
  | n + 1 => ((((roundsOf d n).step 1).2.2.2).step 0).2.2.2

theorem Dq.Ok.rounds {d : Dq} {K : Nat} (h : d.Ok K) : ∀ n, (roundsOf d n).Ok (K + 2 * n)
  | 0 => h
  | n + 1 => ((h.rounds n).step 1).step 0

def hit (s : Int × Int × Int × Dq) : Int := if s.1 = 1 ∧ s.2.1 = 7 then 1 else 0
def hits (d : Dq) : Nat → Int
  | 0 => 0
  | n + 1 => hits d n + hit ((roundsOf d n).step 1) + hit ((((roundsOf d n).step 1).2.2.2).step 0)

theorem hit_01 (s : Int × Int × Int × Dq) : 0 ≤ hit s ∧ hit s ≤ 1 := by unfold hit; split <;> omega
theorem hits_bd (d : Dq) : ∀ n, 0 ≤ hits d n ∧ hits d n ≤ 2 * n
  | 0 => by simp [hits]
  | n + 1 => by
    have := hits_bd d n
    have := hit_01 ((roundsOf d n).step 1)
    have := hit_01 ((((roundsOf d n).step 1).2.2.2).step 0)
    unfold hits
    omega

def ex0 : Dq := stepsOf 0 ((Dq.fresh 2 1).begin 0 1 7).2 4
def ex1 : Dq := (((ex0.theft 1).2).begin 0 2 0).2
theorem ex_push : ((Dq.fresh 2 1).begin 0 1 7).1 = 0 := by decide +kernel
theorem ex_theft : (ex0.theft 1).1 = 0 := by decide +kernel
theorem ex_pop : (((ex0.theft 1).2).begin 0 2 0).1 = 0 := by decide +kernel
theorem ex_hits : hits ex1 6 = 1 := by decide +kernel
theorem ex_len : (roundsOf ex1 6).len = 0 := by decide +kernel

theorem both_below {w a a' : World} {b pb : Nat} (h : Below w.heap.size w a) (h1 : w.heap.size ≤ b) (h2 : w.heap.size ≤ pb) (hF : Frm (Both b pb) a a') : Below w.heap.size w a' :=
  h.trans (hF.below h.size (fun j hj => by unfold Both; omega))

/-- One of the two things that were told. -/
def told (q r : Int × Int × Int × Dq) : Nat → Int × Int × Int × Dq
  | 0 => q
  | _ => r
def toldSum (q r : Int × Int × Int × Dq) : Nat → Int
  | 0 => 0
  | n + 1 => toldSum q r n + hit (told q r n)

/-- The cells of the two. -/
def twoCells (q r : Int × Int × Int × Dq) (o : Nat) : Value :=
  if o % 3 = 0 then .bool ((told q r (o / 3)).1 != 0) else if o % 3 = 1 then .int .i64 (told q r (o / 3)).1 else .int .i64 (told q r (o / 3)).2.1

theorem twoCells_at (q r : Int × Int × Int × Dq) (m : Nat) : twoCells q r (m * 3) = .bool ((told q r m).1 != 0) ∧ twoCells q r (m * 3 + 1) = .int .i64 (told q r m).1 ∧ twoCells q r (m * 3 + 2) = .int .i64 (told q r m).2.1 := by
  unfold twoCells
  rw [show m * 3 % 3 = 0 by omega, show m * 3 / 3 = m by omega, show (m * 3 + 1) % 3 = 1 by omega, show (m * 3 + 1) / 3 = m by omega, show (m * 3 + 2) % 3 = 2 by omega, show (m * 3 + 2) / 3 = m by omega]
  exact ⟨rfl, rfl, rfl⟩

theorem toldSum_bd (q r : Int × Int × Int × Dq) : ∀ n, 0 ≤ toldSum q r n ∧ toldSum q r n ≤ n
  | 0 => by simp [toldSum]
  | n + 1 => by
    have := toldSum_bd q r n
    have := hit_01 (told q r n)
    unfold toldSum
    omega

set_option maxRecDepth 100000 in
set_option maxHeartbeats 4000000 in
theorem lives_any (w : World) : Calls Try.prog 11 #[] w fun r w' => r = .returned (.bool true) ∧ Below w.heap.size w w' := by
  have okf := Dq.Ok.fresh 2 1
  have ok0 := okf.begin 0 1 7 (.inl ⟨.inl rfl, rfl⟩)
  have ok1 : ex0.Ok 5 := ok0.steps (who := 0) 4
  have ok2 : ex1.Ok 7 := (ok1.theft 1).begin 0 2 0 (.inl ⟨.inr rfl, rfl⟩)
  have hn0 : (Dq.fresh 2 1).n ≤ 9 := by decide +kernel
  have HOK0 := Lib.hid ok0
  have HOK1 := Lib.hid ok1
  have HOK2 := Lib.hid ok2
  have HN1 := Lib.hid ok1.n.2
  have HN2 := Lib.hid (ok1.theft 1).n.2
  obtain ⟨d0, hd0⟩ : ∃ d0, Dq.fresh 2 1 = d0 := ⟨_, rfl⟩
  obtain ⟨d1, hd1⟩ : ∃ d1, (d0.begin 0 1 7).2 = d1 := ⟨_, rfl⟩
  have E1 := Lib.hid (show d0.begin 0 1 7 = (0, d1) by rw [← hd1, ← hd0]; exact Prod.ext ex_push rfl)
  have E0 := Lib.hid (show stepsOf 0 d1 4 = ex0 by rw [← hd1, ← hd0]; rfl)
  rw [hd0] at hn0 HOK0
  rw [hd1] at HOK0
  have HD0 := Lib.hid hd0
  clear okf ok0 ok1 ok2 hd0 hd1
  go_enter Try.func11, Try.ntmps11
  go_wp2_with fail
  refine (New_any 2 1 _ (by omega) (by omega) (by omega) (by omega)).mono ?_
  rintro r w1 ⟨b, pb, cap, rfl, hb, hpb, hq, hB⟩
  rw [HD0.out] at hq
  have HB := Lib.hid hB
  have HP := Lib.hid (Push_any hq hn0 7)
  rw [E1.out] at HP
  clear hq hB
  go_wp2_with fail
  refine HP.out.mono ?_
  rintro r w2 ⟨rfl, h2, hF⟩
  have HB2 := Lib.hid (both_below HB.out hb hpb hF)
  have H2 := Lib.hid h2
  clear h2 hF HB
  go_wp2_with fail
  go_loopw [14] (fun i wr => ∃ k : Nat, k ≤ 4 ∧ i = .int .i64 k ∧ IsDq wr b pb cap (stepsOf 0 d1 k) ∧ Below w.heap.size w wr) (fun i _ => 4 - (intOf i).toNat)
  case atStart => exact ⟨0, Nat.zero_le _, rfl, H2.out, HB2.out⟩
  case round =>
    obtain ⟨k, hk, rfl, hq, hB⟩ := hrel
    by_cases hlt : k < 4
    · have HS := Lib.hid (Step_any hq (HOK0.out.steps (who := 0) k) (by omega) 0)
      have HBk := Lib.hid hB
      obtain ⟨s, hs⟩ : ∃ s, (stepsOf 0 d1 k).step 0 = s := ⟨_, rfl⟩
      have HE := Lib.hid (show stepsOf 0 d1 (k + 1) = s.2.2.2 by rw [← hs]; rfl)
      rw [hs] at HS
      unfold stolenV at HS
      clear hq hB hs
      go_wp2_with fail
      refine HS.out.mono ?_
      rintro r w3 ⟨rfl, h3, hF⟩
      have HB3 := Lib.hid (both_below HBk.out hb hpb hF)
      have H3 := Lib.hid h3
      clear h3 hF
      go_wp2_with fail
      go_roundw
      case rel => exact ⟨k + 1, by omega, by go_num, by rw [HE.out]; exact H3.out, HB3.out⟩
      case measure => simp [intOf]; omega
    · obtain rfl : k = 4 := by omega
      rw [E0.out] at hq
      have HS := Lib.hid (Steal_any hq HN1.out 1)
      have HBk := Lib.hid hB
      rw [show ex0.theft 1 = (0, (ex0.theft 1).2) from Prod.ext ex_theft rfl] at HS
      clear hq hB
      go_wp2_with fail
      refine HS.out.mono ?_
      rintro r w3 ⟨rfl, h3, hF⟩
      have HB3 := Lib.hid (both_below HBk.out hb hpb hF)
      have HP3 := Lib.hid (Pop_any h3 HN2.out)
      rw [show (ex0.theft 1).2.begin 0 2 0 = (0, ex1) from Prod.ext ex_pop rfl] at HP3
      clear h3 hF HBk
      go_wp2_with fail
      refine HP3.out.mono ?_
      rintro r w4 ⟨rfl, h4, hF⟩
      have HB4 := Lib.hid (both_below HB3.out hb hpb hF)
      have H4 := Lib.hid h4
      clear h4 hF HB3
      go_wp2_with fail
      go_loopw [4, 23] (fun c i wr => ∃ k : Nat, k ≤ 6 ∧ i = .int .i64 k ∧ c = .int .i64 (hits ex1 k) ∧ IsDq wr b pb cap (roundsOf ex1 k) ∧ Below w.heap.size w wr) (fun _ i _ => 6 - (intOf i).toNat)
      case atStart => exact ⟨0, Nat.zero_le _, rfl, rfl, H4.out, HB4.out⟩
      case round =>
        clear H4 HB4
        obtain ⟨k, hk, rfl, rfl, hq, hB⟩ := hrel
        have hbd := hits_bd ex1 k
        have okk := HOK2.out.rounds k
        by_cases hlt : k < 6
        · have HS := Lib.hid (Step_any hq okk (by omega) 1)
          have HS2 := Lib.hid (fun (w' : World) (hh : IsDq w' b pb cap ((roundsOf ex1 k).step 1).2.2.2) => Step_any hh (okk.step 1) (by omega) 0)
          have HBk := Lib.hid hB
          have HH := Lib.hid (show hits ex1 (k + 1) = hits ex1 k + hit ((roundsOf ex1 k).step 1) + hit ((((roundsOf ex1 k).step 1).2.2.2).step 0) from rfl)
          have HRr := Lib.hid (show roundsOf ex1 (k + 1) = ((((roundsOf ex1 k).step 1).2.2.2).step 0).2.2.2 from rfl)
          generalize (roundsOf ex1 k).step 1 = q at *
          generalize q.2.2.2.step 0 = r at *
          generalize hits ex1 k = c at *
          unfold stolenV at HS HS2
          clear hq hB okk
          go_wp2_with fail
          refine HS.out.mono ?_
          rintro e w5 ⟨rfl, h5, hF⟩
          have HB5 := Lib.hid (both_below HBk.out hb hpb hF)
          have H5 := Lib.hid h5
          clear h5 hF HBk
          go_wp2_with fail
          refine (HS2.out _ (H5.out.alloc _)).mono ?_
          rintro e w6 ⟨rfl, h6, hF⟩
          have HB6 := Lib.hid (both_below (HB5.out.alloc HB5.out.size _) hb hpb hF)
          have H6 := Lib.hid h6
          obtain ⟨A1, hA1⟩ : ∃ A1, w5.heap.size = A1 := ⟨_, rfl⟩
          have ha1 : A1 ≠ b ∧ A1 ≠ pb := by
            have x1 := H5.out.top.lt
            have x2 := H5.out.parts.lt
            omega
          have K1 := Lib.hid (hF.blk (show Blk (w5.alloc (.cells #[.bool (q.1 != 0), .int .i64 q.1, .int .i64 q.2.1] 44)) A1 44 3 (fun o => (#[.bool (q.1 != 0), .int .i64 q.1, .int .i64 q.2.1] : Array Value)[o]?.getD undef) by rw [← hA1]; exact Blk.new _ _ _) (by unfold Both; omega))
          rw [hA1]
          clear h6 hF hA1
          have z0 := K1.out.cell (o := 0) (by omega)
          have z1 := K1.out.cell (o := 1) (by omega)
          have z2 := K1.out.cell (o := 2) (by omega)
          simp only [List.getElem?_toArray, List.getElem?_cons_zero, List.getElem?_cons_succ, Option.getD_some] at z0 z1 z2
          have zl := K1.out.lt
          have zne : ¬ A1 = w6.heap.size := by omega
          have zne2 : ¬ w6.heap.size = A1 := by omega
          go_wp2_with fail
          obtain ⟨W7, hW7⟩ : ∃ W7, (w6.alloc (.cells #[.bool (r.1 != 0), .int .i64 r.1, .int .i64 r.2.1] 44)).alloc (.cells #[.bool (q.1 != 0), .int .i64 q.1, .int .i64 q.2.1, .bool (r.1 != 0), .int .i64 r.1, .int .i64 r.2.1] 44) = W7 := ⟨_, rfl⟩
          obtain ⟨A3, hA3⟩ : ∃ A3, w6.heap.size + 1 = A3 := ⟨_, rfl⟩
          have H7 := Lib.hid (show IsDq W7 b pb cap r.2.2.2 by rw [← hW7]; exact (H6.out.alloc _).alloc _)
          have HB7 := Lib.hid (show Below w.heap.size w W7 by rw [← hW7]; exact (HB6.out.alloc HB6.out.size _).alloc (by have := HB6.out.size; simp; omega) _)
          have K7 := Lib.hid (show Blk W7 A3 44 6 (twoCells q r) by
            rw [← hW7, ← hA3]
            have := Blk.new (w6.alloc (.cells #[.bool (r.1 != 0), .int .i64 r.1, .int .i64 r.2.1] 44)) #[.bool (q.1 != 0), .int .i64 q.1, .int .i64 q.2.1, .bool (r.1 != 0), .int .i64 r.1, .int .i64 r.2.1] 44
            rw [World.size_alloc] at this
            exact this.congr fun o ho => by
              match o, ho with
              | 0, _ => rfl
              | 1, _ => rfl
              | 2, _ => rfl
              | 3, _ => rfl
              | 4, _ => rfl
              | 5, _ => rfl)
          have hc0 : 0 ≤ c ∧ c ≤ 12 := by omega
          try rw [hW7]
          try rw [hA3]
          clear hW7 hA3 z0 z1 z2 zl zne zne2
          go_loopw [4, 39] (fun u i wr => ∃ m : Nat, m ≤ 2 ∧ i = .int .i64 m ∧ u = .int .i64 (c + toldSum q r m) ∧ Blk wr A3 44 6 (twoCells q r) ∧ IsDq wr b pb cap r.2.2.2 ∧ Below w.heap.size w wr) (fun _ i _ => 2 - (intOf i).toNat)
          case atStart => exact ⟨0, Nat.zero_le _, rfl, by simp [toldSum], K7.out, H7.out, HB7.out⟩
          case round =>
            clear K7 H7 HB7
            obtain ⟨m, hm, rfl, rfl, hK7, hq7, hb7⟩ := hrel
            have hts := toldSum_bd q r m
            by_cases hltm : m < 2
            · have y0 := hK7.cell (o := m * 3) (by omega)
              have y1 := hK7.cell (o := m * 3 + 1) (by omega)
              have y2 := hK7.cell (o := m * 3 + 2) (by omega)
              obtain ⟨v0, v1, v2⟩ := twoCells_at q r m
              rw [v0] at y0
              rw [v1] at y1
              rw [v2] at y2
              have HTS := Lib.hid (show toldSum q r (m + 1) = toldSum q r m + hit (told q r m) from rfl)
              have HK7 := Lib.hid hK7
              have HQ7 := Lib.hid hq7
              have HB7 := Lib.hid hb7
              clear v0 v1 v2 hK7 hq7 hb7
              generalize toldSum q r m = ts at *
              generalize told q r m = t at *
              obtain ⟨t1, t2, t3⟩ := t
              simp only at y0 y1 y2
              by_cases h1 : t1 = 1
              · subst h1
                by_cases h2 : t2 = 7
                · subst h2
                  go_wp2_with fail
                  go_roundw
                  case rel => exact ⟨m + 1, by omega, by go_num, by rw [HTS.out]; simp only [hit, Value.int.injEq, true_and]; simp; omega, HK7.out.alloc _, HQ7.out.alloc _, HB7.out.alloc HB7.out.size _⟩
                  case measure => simp [intOf]; omega
                · have e2 : (t2 == 7) = false := by simpa using h2
                  have H2' := Lib.hid h2
                  clear h2
                  go_wp2_with fail
                  go_roundw
                  case rel => exact ⟨m + 1, by omega, by go_num, by rw [HTS.out]; simp only [hit, Value.int.injEq, true_and]; rw [if_neg (fun e => H2'.out (by simpa using e))]; omega, HK7.out.alloc _, HQ7.out.alloc _, HB7.out.alloc HB7.out.size _⟩
                  case measure => simp [intOf]; omega
              · have e1 : (t1 == 1) = false := by simpa using h1
                have H1' := Lib.hid h1
                clear h1
                by_cases h0 : t1 = 0
                all_goals
                  first | (have e0 : (t1 != 0) = false := by simp [h0]) | (have e0 : (t1 != 0) = true := by simpa using h0)
                  have H0' := Lib.hid h0
                  clear h0
                  go_wp2_with fail
                  go_roundw
                  case rel => exact ⟨m + 1, by omega, by go_num, by rw [HTS.out]; simp only [hit, Value.int.injEq, true_and]; rw [if_neg (fun e => H1'.out e.1)]; omega, HK7.out.alloc _, HQ7.out.alloc _, HB7.out.alloc HB7.out.size _⟩
                  case measure => simp [intOf]; omega
            · obtain rfl : m = 2 := by omega
              have HQ7 := Lib.hid hq7
              have HB7 := Lib.hid hb7
              have HTS := Lib.hid (show toldSum q r 2 = hit q + hit r by simp [toldSum, told])
              clear hK7 hq7 hb7
              go_wp2_with fail
              go_roundw
              case rel => exact ⟨k + 1, by omega, by go_num, by rw [HH.out, HTS.out]; simp only [Value.int.injEq, true_and]; omega, by rw [HRr.out]; exact HQ7.out, HB7.out⟩
              case measure => simp [intOf]; omega
        · obtain rfl : k = 6 := by omega
          have HQ := Lib.hid (Len_any hq okk (by omega))
          have HBk := Lib.hid hB
          rw [ex_len] at HQ
          rw [ex_hits]
          clear hq hB okk hbd
          go_wp2_with fail
          refine HQ.out.mono ?_
          rintro r w5 ⟨rfl, kk, rfl⟩
          go_wp2_with fail
          go_ret
          exact ⟨rfl, Below.drewN HBk.out _⟩
end Go.Proofs.Ytnjondphbfniaaa
