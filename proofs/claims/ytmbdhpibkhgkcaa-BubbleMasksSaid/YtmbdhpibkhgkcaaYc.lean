/- The document's Turn (package pinfoldref13): Regen; whatever it is asked. No condition. -/
import Derived.Test.YtmbdhpibkhgkcaaYb
namespace Go.Proofs.Ytmbdhpibkhgkcaa
open Go.RowKit

section
variable {w w' : World} {n : Nat} {v : Value} {bs : Nat → Bk}

set_option maxRecDepth 100000 in
set_option maxHeartbeats 4000000 in
theorem RT_regen (h : SlB w v n bs) (hups : Ups n bs) (hn : n ≤ 32) (b : Nat) (hb : b < n) (home : Int) (h1 : bs b 17 = 4) : Calls Try.prog 34 #[v, .int .i64 5, .int .i64 b, .int .i64 home] w (RTurnTo w v n (0, b :: ownL (innB n bs b) n, bsK (innB n bs b) trR (updT bs b (setO (setO (bs b) 17 3) 18 home)) n)) := by
  have HI := Lib.hid (RIs_any h b)
  rw [show isB n (b : Int) = true by unfold isB; exact decide_eq_true ⟨by omega, by omega⟩] at HI
  have hbI : (b : Int) < n := by omega
  have hup := hups b hb
  have HU := Lib.hid hups
  have HS := Lib.hid h
  have HBW0 := Lib.hid ((Below.refl w.heap.size w).alloc (Nat.le_refl _) (.cells #[] 35))
  have HO1 := Lib.hid (show (w.alloc (.cells #[] 35)).ownsRow w.heap.size 35 19 (.slice (some ⟨w.heap.size, 0, none⟩) 0 0) 0 [] from World.ownsRow_made w #[] 0 (Nat.le_refl _) (by decide) rfl)
  have HS1 := Lib.hid ((h.below HBW0.out).src)
  have HPO := Lib.hid (flat_one bs n)
  obtain ⟨i35, I35, Z35, S35, B35⟩ := info_parts Try.info35
  have I35 := Lib.hid I35
  have Z35 := Lib.hid Z35
  have S35 := Lib.hid S35
  have B35 := Lib.hid B35
  obtain ⟨a, cap, rfl, hg⟩ := h
  obtain ⟨g, rfl, hx⟩ := hg (by omega)
  have HX := Lib.hid hx
  have HGL := Lib.hid (show g < w.heap.size from World.block_lt_of_cell? _ _ (hx b 0 hb (by omega)))
  clear hx hg hups
  go_enter Try.func34, Try.ntmps34
  go_wp2_with fail
  refine HI.out.mono ?_
  rintro r w' ⟨rfl, rfl⟩
  go_upto_region 4 with (first | (refine wpList_build0 rfl rfl ?_) | (at_builtin; refine wpList_append_srcN rfl _ _ 43 rfl w.heap.size 35 i35 _ 19 152 Try.underlying43 I35.out Z35.out S35.out B35.out (buArr_size bk0) (by omega) rfl HO1.out rfl HS1.out HPO.out (by simp only [maxLen]; omega) (by omega) HBW0.out.size ?_; intro v1 W3 hown1 hgrow1 _; have HB3 := Lib.hid (HBW0.out.grown hgrow1 HBW0.out.size (fun j hj => (HO1.out.lt j hj).1)); rw [Nat.zero_add, List.nil_append] at hown1; have HO3 := Lib.hid hown1; clear hown1 hgrow1))
  obtain ⟨G, gcap, hv1⟩ : ∃ G gcap, v1 = .slice (some ⟨G, 0, none⟩) n gcap := by
    obtain ⟨n', rfl⟩ : ∃ n', n = n' + 1 := ⟨n - 1, by omega⟩
    exact ownsRow_succ HO3.out
  subst hv1
  have hGb := (HO3.out.lt G rfl).1
  have HK := Lib.hid (fun (w' : World) (hb' : Below w.heap.size w w') (i o : Nat) (hi : i < n) (ho : o < 19) => show w'.cell? ⟨g, i * 19 + o, none⟩ = some (.int (buKind o) (bs i o)) from (hb'.cell (p := ⟨g, i * 19 + o, none⟩) HGL.out).trans (HX.out i o hi ho))
  have c17 := HK.out W3 HB3.out b 17 hb (by omega)
  have c0 := HK.out W3 HB3.out b 0 hb (by omega)
  rw [show buKind 17 = .i64 from rfl] at c17
  rw [show buKind 0 = .i64 from rfl, Nat.add_zero] at c0
  clear HO1 HS1 HPO HBW0 HI
  rw [h1] at c17
  obtain ⟨i3, I3, Z3, S3, B3⟩ := info_parts Try.info3i
  have I3 := Lib.hid I3
  have Z3 := Lib.hid Z3
  have S3 := Lib.hid S3
  have B3 := Lib.hid B3
  go_upto_region 11 with fail
  obtain ⟨W4, hW4⟩ : ∃ W4, W3.alloc (.cells #[.int .i64 b] 3) = W4 := ⟨_, rfl⟩
  obtain ⟨T, hT⟩ : ∃ T, W3.heap.size = T := ⟨_, rfl⟩
  have HB4 := Lib.hid (show Below w.heap.size w W4 by rw [← hW4]; exact HB3.out.alloc HB3.out.size _)
  have HO4 := Lib.hid (show W4.ownsRow w.heap.size 35 19 (.slice (some ⟨G, 0, none⟩) n gcap) n (flat bs n) by rw [← hW4]; exact HO3.out.alloc _)
  have HT4 := Lib.hid (show W4.ownsRow w.heap.size 3 1 (.slice (some ⟨T, 0, none⟩) 1 1) 1 (intsL [b]) by rw [← hW4, ← hT]; exact World.ownsRow_lit W3 #[.int .i64 b] 1 HB3.out.size (by decide) rfl)
  have hTG : T ≠ G := by have := (HO3.out.lt G rfl).2; omega
  rw [hW4, hT]
  clear hW4 hT HO3 HB3 c17 c0
  have d17 := own_cell HO4.out hb (o := 17) (by omega)
  have d18 := own_cell HO4.out hb (o := 18) (by omega)
  rw [show buKind 17 = .i64 from rfl] at d17
  rw [show buKind 18 = .i64 from rfl] at d18
  have f17 : W4.frozen? ⟨G, b * 19 + 17, none⟩ = false := HO4.out.frozenAt _
  have f18 : W4.frozen? ⟨G, b * 19 + 18, none⟩ = false := HO4.out.frozenAt _
  go_upto_region 14 with fail
  obtain ⟨bs1, hbs1⟩ : ∃ bs1, updT bs b (setO (setO (bs b) 17 3) 18 home) = bs1 := ⟨_, rfl⟩
  obtain ⟨W5, hW5⟩ : ∃ W5, (W4.setCell ⟨G, b * 19 + 17, none⟩ (.int .i64 3)).setCell ⟨G, b * 19 + 18, none⟩ (.int .i64 home) = W5 := ⟨_, rfl⟩
  have HB5 := Lib.hid (show Below w.heap.size w W5 by rw [← hW5]; exact (HB4.out.setCell (p := ⟨G, b * 19 + 17, none⟩) hGb (.int .i64 3)).setCell (p := ⟨G, b * 19 + 18, none⟩) hGb (.int .i64 home))
  have HO5 := Lib.hid (show W5.ownsRow w.heap.size 35 19 (.slice (some ⟨G, 0, none⟩) n gcap) n (flat bs1 n) by rw [← hW5, ← hbs1]; exact (by
      have x1 := own_wcell HO4.out hb (o := 17) (by omega) (k := IntKind.i64) rfl 3
      have x2 := own_wcell x1 hb (o := 18) (by omega) (k := IntKind.i64) rfl home
      rw [updT_same, updT_two] at x2
      exact x2))
  have HT5 := Lib.hid (show W5.ownsRow w.heap.size 3 1 (.slice (some ⟨T, 0, none⟩) 1 1) 1 (intsL [b]) by rw [← hW5]; exact own_of_heap HT4.out fun j hj => (Below.heap_setCell _ _ _ _ (by cases hj; exact hTG)).trans (Below.heap_setCell _ _ _ _ (by cases hj; exact hTG)))
  rw [hW5]
  have HBS := Lib.hid hbs1
  clear hW5 HB4 HO4 HT4 d17 d18 f17 f18 hbs1
  have HK5 := Lib.hid (fun (w' : World) (hb' : Below w.heap.size w w') => HK.out w' hb')
  have hGg : G ≠ g := by have := HGL.out; omega
  have hgG : g ≠ G := fun e => hGg e.symm
  clear HK
  go_wp2_with fail
  go_loopw [14, 97] (fun y s wr => ∃ k : Nat, k ≤ n ∧ s = .int .i64 k ∧ RLoop w n G gcap b (innB n bs b) (trR) bs1 k y wr) (fun _ s _ => n - (intOf s).toNat)
  case atStart => exact ⟨0, Nat.zero_le _, rfl, by rw [bsK_zero]; exact HO5.out, HT5.out, fun e => hTG (Option.some.inj e), HB5.out⟩
  case round =>
    clear HO5 HT5 HB5
    obtain ⟨k, hk, rfl, hO, hY, hne, hB⟩ := hrel
    have HO := Lib.hid hO
    have HY := Lib.hid hY
    have HNE := Lib.hid hne
    have HB := Lib.hid hB
    have hll := ownL_len (innB n bs b) k
    clear hO hY hne hB
    by_cases hlt : k < n
    · have hltI : (k : Int) < n := by omega
      have e0 := HK5.out wr HB.out k 0 hlt (by omega)
      have e17 := HK5.out wr HB.out k 17 hlt (by omega)
      rw [show buKind 0 = .i64 from rfl, Nat.add_zero] at e0
      rw [show buKind 17 = .i64 from rfl] at e17
      have HIN := Lib.hid (RInside_any (HS.out.below HB.out) HU.out hn (k : Int) (b : Int))
      rw [rIn_ins HU.out hb hlt] at HIN
      by_cases x0 : k = b
      · have ho : innB n bs b k = false := by simp [innB, x0]
        have n1 : ((k : Int) == (b : Int)) = true := by simp [x0]
        have n2 : ((k : Int) != (b : Int)) = false := by simp [x0]
        clear e0 e17 HIN
        have HL := Lib.hid (ownL_no (own := innB n bs b) ho)
        have HKN := Lib.hid (bsK_no (tr := trR) (bs := bs1) ho)
        clear ho
        go_wp2_with fail
        go_roundw
        case rel => exact ⟨k + 1, by omega, by go_num, by rw [← HKN.out]; exact HO.out, by rw [HL.out]; exact HY.out, HNE.out, HB.out⟩
        case measure => simp [intOf]; omega
      · have n1 : ((k : Int) == (b : Int)) = false := by first | (simp; done) | (simp; omega)
        have n2 : ((k : Int) != (b : Int)) = true := by first | (simp; done) | (simp; omega)
        cases hin : insD n bs k b with
        | false =>
          have ho : innB n bs b k = false := by simp [innB, hin]
          rw [hin] at HIN
          clear e0 e17 hin
          have HL := Lib.hid (ownL_no (own := innB n bs b) ho)
          have HKN := Lib.hid (bsK_no (tr := trR) (bs := bs1) ho)
          clear ho
          go_wp2_with fail
          refine HIN.out.mono ?_
          rintro r w6 ⟨rfl, hb6⟩
          have HB6c := Lib.hid (HB.out.trans (hb6.mono HB.out.size))
          have HO6c := Lib.hid (show w6.ownsRow w.heap.size 35 19 (.slice (some ⟨G, 0, none⟩) n gcap) n (flat (bsK (innB n bs b) trR bs1 k) n) from own_of_heap HO.out fun j hj => hb6.block j (HO.out.lt j hj).2)
          have HY6c := Lib.hid (show w6.ownsRow w.heap.size 3 1 u14 (b :: ownL (innB n bs b) k).length (intsL (b :: ownL (innB n bs b) k)) from own_of_heap HY.out fun j hj => hb6.block j (HY.out.lt j hj).2)
          clear hb6 HB HO HY
          have HB := HB6c
          have HO := HO6c
          have HY := HY6c
          clear HB6c HO6c HY6c
          go_wp2_with fail
          go_roundw
          case rel => exact ⟨k + 1, by omega, by go_num, by rw [← HKN.out]; exact HO.out, by rw [HL.out]; exact HY.out, HNE.out, HB.out⟩
          case measure => simp [intOf]; omega
        | true =>
          rw [hin] at HIN
          by_cases x1 : 3 ≤ bs k 17
          · have ho : innB n bs b k = true := by simp [innB, n1, hin, x1]
            have hst := HK5.out
            clear e0 e17 hin
            go_wp2_with fail
            refine HIN.out.mono ?_
            rintro r w6 ⟨rfl, hb6⟩
            have HB6c := Lib.hid (HB.out.trans (hb6.mono HB.out.size))
            have HO6c := Lib.hid (show w6.ownsRow w.heap.size 35 19 (.slice (some ⟨G, 0, none⟩) n gcap) n (flat (bsK (innB n bs b) trR bs1 k) n) from own_of_heap HO.out fun j hj => hb6.block j (HO.out.lt j hj).2)
            have HY6c := Lib.hid (show w6.ownsRow w.heap.size 3 1 u14 (b :: ownL (innB n bs b) k).length (intsL (b :: ownL (innB n bs b) k)) from own_of_heap HY.out fun j hj => hb6.block j (HY.out.lt j hj).2)
            clear hb6 HB HO HY
            have HB := HB6c
            have HO := HO6c
            have HY := HY6c
            clear HB6c HO6c HY6c
            have e17 := hst _ HB.out k 17 hlt (by omega)
            rw [show buKind 17 = .i64 from rfl] at e17
            have p17 := own_cell HO.out hlt (o := 17) (by omega)
            rw [show buKind 17 = .i64 from rfl] at p17
            have q17 : w6.frozen? ⟨G, k * 19 + 17, none⟩ = false := HO.out.frozenAt _
            clear hst
            go_upto_region 19 with fail
            clear p17 q17 e17
            obtain ⟨W7, hW7⟩ : ∃ W7, w6.setCell ⟨G, k * 19 + 17, none⟩ (.int .i64 2) = W7 := ⟨_, rfl⟩
            have HY6 := Lib.hid (show W7.ownsRow w.heap.size 3 1 u14 (b :: ownL (innB n bs b) k).length (intsL (b :: ownL (innB n bs b) k)) by
              rw [← hW7]
              exact own_of_heap HY.out fun j hj => Below.heap_setCell _ _ _ _ (by intro e; simp only at e; subst e; exact HNE.out hj))
            have HO6 := Lib.hid (show W7.ownsRow w.heap.size 35 19 (.slice (some ⟨G, 0, none⟩) n gcap) n (flat (bsK (innB n bs b) (trR) bs1 (k + 1)) n) by
              rw [← hW7, ← bsK_yes ho]
              exact (by
              have h1 := own_wcell HO.out hlt (o := 17) (by omega) (k := IntKind.i64) rfl 2
              rw [bsK_at] at h1
              exact h1))
            have HB6 := Lib.hid (show Below w.heap.size w W7 by rw [← hW7]; exact HB.out.setCell (p := ⟨G, k * 19 + 17, none⟩) hGb (.int .i64 2))
            rw [hW7]
            have HL := Lib.hid (show (b :: ownL (innB n bs b) k) ++ [k] = b :: ownL (innB n bs b) (k + 1) by rw [ownL_yes ho]; rfl)
            clear hW7 ho HY HO HB
            have hsz : w.heap.size ≤ (W7.alloc (.cells #[.int .i64 k] 3)).heap.size := by have := HB6.out.size; simp; omega
            have hlen : (b :: ownL (innB n bs b) k).length ≤ 40 := by simp only [List.length_cons]; omega
            go_wp2_with (at_builtin; refine wpList_append_srcN rfl _ _ 31 rfl w.heap.size 3 i3 _ 1 8 Try.underlying31 I3.out Z3.out S3.out B3.out rfl (by decide) rfl (HY6.out.alloc _) rfl (src_new1 W7 _ 3) (by simp [Value.oneCell']) (by simp only [maxLen]; omega) (by omega) hsz ?_; intro v' w8 hown' hgrow hblk; rw [intsL_more] at hown'; have HY7 := Lib.hid hown'; have HG7 := Lib.hid hgrow; have HK7 := Lib.hid hblk; clear hown' hgrow hblk)
            have hO7 := (HO6.out.alloc (.cells #[.int .i64 k] 3)).kept HG7.out (.inr (fun e => HNE.out e.symm))
            have hB7 : Below w.heap.size w w8 := (HB6.out.alloc HB6.out.size (.cells #[.int .i64 k] 3)).grown HG7.out hsz (fun j hj => (HY6.out.lt j hj).1)
            have hne7 : v'.ownBlock ≠ some G := fun e => by
              rcases HK7.out with e2 | e2
              · rw [e2] at e; exact HNE.out e
              · rw [e2] at e
                have h1 := Option.some.inj e
                have h2 := (HO6.out.lt G rfl).2
                simp at h1
                omega
            go_roundw
            case rel => exact ⟨k + 1, by omega, by go_num, hO7, by rw [← HL.out, List.length_append]; exact HY7.out, hne7, hB7⟩
            case measure => simp [intOf]; omega
          · have ho : innB n bs b k = false := by simp [innB, x1]
            have hst := HK5.out
            clear e0 e17 hin
            have HL := Lib.hid (ownL_no (own := innB n bs b) ho)
            have HKN := Lib.hid (bsK_no (tr := trR) (bs := bs1) ho)
            clear ho
            go_wp2_with fail
            refine HIN.out.mono ?_
            rintro r w6 ⟨rfl, hb6⟩
            have HB6c := Lib.hid (HB.out.trans (hb6.mono HB.out.size))
            have HO6c := Lib.hid (show w6.ownsRow w.heap.size 35 19 (.slice (some ⟨G, 0, none⟩) n gcap) n (flat (bsK (innB n bs b) trR bs1 k) n) from own_of_heap HO.out fun j hj => hb6.block j (HO.out.lt j hj).2)
            have HY6c := Lib.hid (show w6.ownsRow w.heap.size 3 1 u14 (b :: ownL (innB n bs b) k).length (intsL (b :: ownL (innB n bs b) k)) from own_of_heap HY.out fun j hj => hb6.block j (HY.out.lt j hj).2)
            clear hb6 HB HO HY
            have HB := HB6c
            have HO := HO6c
            have HY := HY6c
            clear HB6c HO6c HY6c
            have e17 := hst _ HB.out k 17 hlt (by omega)
            rw [show buKind 17 = .i64 from rfl] at e17
            go_wp2_with fail
            go_roundw
            case rel => exact ⟨k + 1, by omega, by go_num, by rw [← HKN.out]; exact HO.out, by rw [HL.out]; exact HY.out, HNE.out, HB.out⟩
            case measure => simp [intOf]; omega
    · obtain rfl : k = n := by omega
      clear hlt
      go_wp2_with fail
      have HSF := SlB.own HO.out
      rw [← HBS.out] at HSF
      have HSFF := Lib.hid HSF
      clear HSF
      go_ret3
      exact ⟨_, _, rfl, HSFF.out, fun g' hg' => .inr (HO.out.lt g' hg').1, HY.out, HB.out⟩

theorem RT_burstA (h : SlB w v n bs) (hups : Ups n bs) (hn : n ≤ 32) (b home : Int) : Calls Try.prog 34 #[v, .int .i64 4, .int .i64 b, .int .i64 home] w (RTurnTo w v n (burstD n bs b)) := by
  unfold burstD
  cases hb : isB n b with
  | false =>
    rw [if_neg (by simp)]
    exact RT_no h 4 b home hb
  | true =>
    rw [if_pos rfl]
    obtain ⟨b0, b1⟩ := isB_iff.1 hb
    obtain ⟨b, rfl⟩ := Int.eq_ofNat_of_zero_le b0
    have hc : b < n := by omega
    rw [Int.toNat_natCast]
    by_cases e : bs b 17 = 3
    · rw [if_pos e]
      have hown : ∀ i, i < n → ownB (updT bs b (setO (bs b) 17 4)) b i = ownB bs b i := fun i hi => ownB_same hups hc hi
      rw [ownL_congr (Nat.le_refl n) hown, bsK_congr _ _ hown]
      exact RT_burst h hups hn b hc home e
    · rw [if_neg e]
      exact RT_burst_no h hups hn b hc home e

theorem RT_regenA (h : SlB w v n bs) (hups : Ups n bs) (hn : n ≤ 32) (b home : Int) : Calls Try.prog 34 #[v, .int .i64 5, .int .i64 b, .int .i64 home] w (RTurnTo w v n (regenD n bs b home)) := by
  unfold regenD
  cases hb : isB n b with
  | false =>
    rw [if_neg (by simp)]
    exact RT_no h 5 b home hb
  | true =>
    rw [if_pos rfl]
    obtain ⟨b0, b1⟩ := isB_iff.1 hb
    obtain ⟨b, rfl⟩ := Int.eq_ofNat_of_zero_le b0
    have hc : b < n := by omega
    rw [Int.toNat_natCast]
    by_cases e : bs b 17 = 4
    · rw [if_pos e]
      have hown : ∀ i, i < n → innB n (updT bs b (setO (setO (bs b) 17 3) 18 home)) b i = innB n bs b i := fun i _ => innB_same home i
      rw [ownL_congr (Nat.le_refl n) hown, bsK_congr _ _ hown]
      exact RT_regen h hups hn b hc home e
    · rw [if_neg e]
      exact RT_regen_no h hups hn b hc home e
end
end Go.Proofs.Ytmbdhpibkhgkcaa
