/- The document's Turn (package pinfoldref13): Place. No condition. -/
import Derived.Test.YtmbdhpibkhgkcaaY
namespace Go.Proofs.Ytmbdhpibkhgkcaa
open Go.RowKit

section
variable {w w' : World} {n : Nat} {v : Value} {bs : Nat → Bk}

set_option maxRecDepth 100000 in
set_option maxHeartbeats 4000000 in
theorem RT_place_no (h : SlB w v n bs) (hups : Ups n bs) (hn : n ≤ 32) (b : Nat) (hb : b < n) (home : Int) (h1 : bs b 17 ≠ 2) (h2 : bs b 17 ≠ 3) : Calls Try.prog 34 #[v, .int .i64 3, .int .i64 b, .int .i64 home] w (RTurnTo w v n (5, [], bs)) := by
  have HI := Lib.hid (RIs_any h b)
  rw [show isB n (b : Int) = true by unfold isB; exact decide_eq_true ⟨by omega, by omega⟩] at HI
  have hbI : (b : Int) < n := by omega
  have hup := hups b hb
  have HU := Lib.hid hups
  have HS := Lib.hid h
  have HBW0 := Lib.hid ((Below.refl w.heap.size w).alloc (Nat.le_refl _) (.cells #[] 35))
  have HO1 := Lib.hid (show (w.alloc (.cells #[] 35)).ownsRow w.heap.size 35 19 (.slice (some ⟨w.heap.size, 0, none⟩) 0 0) 0 [] from World.ownsRow_made w #[] 0 (Nat.le_refl _) (by decide) rfl)
  have HS1 := Lib.hid ((h.below HBW0.out).src)
  have HPO := Lib.hid (flat_one bs n)
  obtain ⟨i35, I35, Z35, S35, B35⟩ := info_parts Try.info35
  have I35 := Lib.hid I35
  have Z35 := Lib.hid Z35
  have S35 := Lib.hid S35
  have B35 := Lib.hid B35
  obtain ⟨a, cap, rfl, hg⟩ := h
  obtain ⟨g, rfl, hx⟩ := hg (by omega)
  have HX := Lib.hid hx
  have HGL := Lib.hid (show g < w.heap.size from World.block_lt_of_cell? _ _ (hx b 0 hb (by omega)))
  clear hx hg hups
  go_enter Try.func34, Try.ntmps34
  go_wp2_with fail
  refine HI.out.mono ?_
  rintro r w' ⟨rfl, rfl⟩
  go_upto_region 4 with (first | (refine wpList_build0 rfl rfl ?_) | (at_builtin; refine wpList_append_srcN rfl _ _ 43 rfl w.heap.size 35 i35 _ 19 152 Try.underlying43 I35.out Z35.out S35.out B35.out (buArr_size bk0) (by omega) rfl HO1.out rfl HS1.out HPO.out (by simp only [maxLen]; omega) (by omega) HBW0.out.size ?_; intro v1 W3 hown1 hgrow1 _; have HB3 := Lib.hid (HBW0.out.grown hgrow1 HBW0.out.size (fun j hj => (HO1.out.lt j hj).1)); rw [Nat.zero_add, List.nil_append] at hown1; have HO3 := Lib.hid hown1; clear hown1 hgrow1))
  obtain ⟨G, gcap, hv1⟩ : ∃ G gcap, v1 = .slice (some ⟨G, 0, none⟩) n gcap := by
    obtain ⟨n', rfl⟩ : ∃ n', n = n' + 1 := ⟨n - 1, by omega⟩
    exact ownsRow_succ HO3.out
  subst hv1
  have hGb := (HO3.out.lt G rfl).1
  have HK := Lib.hid (fun (w' : World) (hb' : Below w.heap.size w w') (i o : Nat) (hi : i < n) (ho : o < 19) => show w'.cell? ⟨g, i * 19 + o, none⟩ = some (.int (buKind o) (bs i o)) from (hb'.cell (p := ⟨g, i * 19 + o, none⟩) HGL.out).trans (HX.out i o hi ho))
  have c17 := HK.out W3 HB3.out b 17 hb (by omega)
  have c0 := HK.out W3 HB3.out b 0 hb (by omega)
  rw [show buKind 17 = .i64 from rfl] at c17
  rw [show buKind 0 = .i64 from rfl, Nat.add_zero] at c0
  clear HO1 HS1 HPO HBW0 HI
  have n1 : (bs b 17 == 2) = false := by simpa using h1
  have n2 : (bs b 17 == 3) = false := by simpa using h2
  clear h1 h2
  generalize bs b 17 = st at *
  have HEND := Lib.hid (SlB.below HS.out HB3.out)
  go_wp2_with fail
  go_ret3
  exact ⟨_, _, rfl, HEND.out, fun g hg => .inl hg, World.ownsRow_nil _ _ _ _, HB3.out⟩

set_option maxRecDepth 100000 in
set_option maxHeartbeats 4000000 in
theorem RT_place_top2 (h : SlB w v n bs) (hups : Ups n bs) (hn : n ≤ 32) (b : Nat) (hb : b < n) (home : Int) (h1 : bs b 17 = 2) (h2 : bs b 0 = -1) : Calls Try.prog 34 #[v, .int .i64 3, .int .i64 b, .int .i64 home] w (RTurnTo w v n (0, [b], updT bs b (setO (setO (bs b) 17 3) 18 home))) := by
  have HI := Lib.hid (RIs_any h b)
  rw [show isB n (b : Int) = true by unfold isB; exact decide_eq_true ⟨by omega, by omega⟩] at HI
  have hbI : (b : Int) < n := by omega
  have hup := hups b hb
  have HU := Lib.hid hups
  have HS := Lib.hid h
  have HBW0 := Lib.hid ((Below.refl w.heap.size w).alloc (Nat.le_refl _) (.cells #[] 35))
  have HO1 := Lib.hid (show (w.alloc (.cells #[] 35)).ownsRow w.heap.size 35 19 (.slice (some ⟨w.heap.size, 0, none⟩) 0 0) 0 [] from World.ownsRow_made w #[] 0 (Nat.le_refl _) (by decide) rfl)
  have HS1 := Lib.hid ((h.below HBW0.out).src)
  have HPO := Lib.hid (flat_one bs n)
  obtain ⟨i35, I35, Z35, S35, B35⟩ := info_parts Try.info35
  have I35 := Lib.hid I35
  have Z35 := Lib.hid Z35
  have S35 := Lib.hid S35
  have B35 := Lib.hid B35
  obtain ⟨a, cap, rfl, hg⟩ := h
  obtain ⟨g, rfl, hx⟩ := hg (by omega)
  have HX := Lib.hid hx
  have HGL := Lib.hid (show g < w.heap.size from World.block_lt_of_cell? _ _ (hx b 0 hb (by omega)))
  clear hx hg hups
  go_enter Try.func34, Try.ntmps34
  go_wp2_with fail
  refine HI.out.mono ?_
  rintro r w' ⟨rfl, rfl⟩
  go_upto_region 4 with (first | (refine wpList_build0 rfl rfl ?_) | (at_builtin; refine wpList_append_srcN rfl _ _ 43 rfl w.heap.size 35 i35 _ 19 152 Try.underlying43 I35.out Z35.out S35.out B35.out (buArr_size bk0) (by omega) rfl HO1.out rfl HS1.out HPO.out (by simp only [maxLen]; omega) (by omega) HBW0.out.size ?_; intro v1 W3 hown1 hgrow1 _; have HB3 := Lib.hid (HBW0.out.grown hgrow1 HBW0.out.size (fun j hj => (HO1.out.lt j hj).1)); rw [Nat.zero_add, List.nil_append] at hown1; have HO3 := Lib.hid hown1; clear hown1 hgrow1))
  obtain ⟨G, gcap, hv1⟩ : ∃ G gcap, v1 = .slice (some ⟨G, 0, none⟩) n gcap := by
    obtain ⟨n', rfl⟩ : ∃ n', n = n' + 1 := ⟨n - 1, by omega⟩
    exact ownsRow_succ HO3.out
  subst hv1
  have hGb := (HO3.out.lt G rfl).1
  have HK := Lib.hid (fun (w' : World) (hb' : Below w.heap.size w w') (i o : Nat) (hi : i < n) (ho : o < 19) => show w'.cell? ⟨g, i * 19 + o, none⟩ = some (.int (buKind o) (bs i o)) from (hb'.cell (p := ⟨g, i * 19 + o, none⟩) HGL.out).trans (HX.out i o hi ho))
  have c17 := HK.out W3 HB3.out b 17 hb (by omega)
  have c0 := HK.out W3 HB3.out b 0 hb (by omega)
  rw [show buKind 17 = .i64 from rfl] at c17
  rw [show buKind 0 = .i64 from rfl, Nat.add_zero] at c0
  clear HO1 HS1 HPO HBW0 HI
  rw [h1] at c17
  rw [h2] at c0
  go_upto_region 11 with fail
  obtain ⟨W4, hW4⟩ : ∃ W4, W3.alloc (.cells #[.int .i64 b] 3) = W4 := ⟨_, rfl⟩
  obtain ⟨T, hT⟩ : ∃ T, W3.heap.size = T := ⟨_, rfl⟩
  have HB4 := Lib.hid (show Below w.heap.size w W4 by rw [← hW4]; exact HB3.out.alloc HB3.out.size _)
  have HO4 := Lib.hid (show W4.ownsRow w.heap.size 35 19 (.slice (some ⟨G, 0, none⟩) n gcap) n (flat bs n) by rw [← hW4]; exact HO3.out.alloc _)
  have HT4 := Lib.hid (show W4.ownsRow w.heap.size 3 1 (.slice (some ⟨T, 0, none⟩) 1 1) 1 (intsL [b]) by rw [← hW4, ← hT]; exact World.ownsRow_lit W3 #[.int .i64 b] 1 HB3.out.size (by decide) rfl)
  have hTG : T ≠ G := by have := (HO3.out.lt G rfl).2; omega
  rw [hW4, hT]
  clear hW4 hT HO3 HB3 c17 c0
  have d17 := own_cell HO4.out hb (o := 17) (by omega)
  have d18 := own_cell HO4.out hb (o := 18) (by omega)
  rw [show buKind 17 = .i64 from rfl] at d17
  rw [show buKind 18 = .i64 from rfl] at d18
  have f17 : W4.frozen? ⟨G, b * 19 + 17, none⟩ = false := HO4.out.frozenAt _
  have f18 : W4.frozen? ⟨G, b * 19 + 18, none⟩ = false := HO4.out.frozenAt _
  have hW1 := own_wcell HO4.out hb (o := 17) (by omega) (k := IntKind.i64) rfl 3
  have hW2 := own_wcell hW1 hb (o := 18) (by omega) (k := IntKind.i64) rfl home
  rw [updT_same, updT_two] at hW2
  have HW := Lib.hid hW2
  have HBE := Lib.hid ((HB4.out.setCell (p := ⟨G, b * 19 + 17, none⟩) hGb (.int .i64 3)).setCell (p := ⟨G, b * 19 + 18, none⟩) hGb (.int .i64 home))
  have HTE := Lib.hid (own_of_heap (w' := (W4.setCell ⟨G, b * 19 + 17, none⟩ (.int .i64 3)).setCell ⟨G, b * 19 + 18, none⟩ (.int .i64 home)) HT4.out fun j hj => (Below.heap_setCell _ _ _ _ (by cases hj; exact hTG)).trans (Below.heap_setCell _ _ _ _ (by cases hj; exact hTG)))
  clear hW1 hW2
  go_wp2_with fail
  go_ret3
  exact ⟨_, _, rfl, SlB.own HW.out, fun g' hg' => .inr (HW.out.lt g' hg').1, HTE.out, HBE.out⟩

set_option maxRecDepth 100000 in
set_option maxHeartbeats 4000000 in
theorem RT_place_in2 (h : SlB w v n bs) (hups : Ups n bs) (hn : n ≤ 32) (b : Nat) (hb : b < n) (home : Int) (h1 : bs b 17 = 2) (h2 : bs b 0 ≠ -1) (h3 : bs (bs b 0).toNat 17 = 4) : Calls Try.prog 34 #[v, .int .i64 3, .int .i64 b, .int .i64 home] w (RTurnTo w v n (0, [b], updT bs b (setO (setO (bs b) 17 3) 18 home))) := by
  have HI := Lib.hid (RIs_any h b)
  rw [show isB n (b : Int) = true by unfold isB; exact decide_eq_true ⟨by omega, by omega⟩] at HI
  have hbI : (b : Int) < n := by omega
  have hup := hups b hb
  have HU := Lib.hid hups
  have HS := Lib.hid h
  have HBW0 := Lib.hid ((Below.refl w.heap.size w).alloc (Nat.le_refl _) (.cells #[] 35))
  have HO1 := Lib.hid (show (w.alloc (.cells #[] 35)).ownsRow w.heap.size 35 19 (.slice (some ⟨w.heap.size, 0, none⟩) 0 0) 0 [] from World.ownsRow_made w #[] 0 (Nat.le_refl _) (by decide) rfl)
  have HS1 := Lib.hid ((h.below HBW0.out).src)
  have HPO := Lib.hid (flat_one bs n)
  obtain ⟨i35, I35, Z35, S35, B35⟩ := info_parts Try.info35
  have I35 := Lib.hid I35
  have Z35 := Lib.hid Z35
  have S35 := Lib.hid S35
  have B35 := Lib.hid B35
  obtain ⟨a, cap, rfl, hg⟩ := h
  obtain ⟨g, rfl, hx⟩ := hg (by omega)
  have HX := Lib.hid hx
  have HGL := Lib.hid (show g < w.heap.size from World.block_lt_of_cell? _ _ (hx b 0 hb (by omega)))
  clear hx hg hups
  go_enter Try.func34, Try.ntmps34
  go_wp2_with fail
  refine HI.out.mono ?_
  rintro r w' ⟨rfl, rfl⟩
  go_upto_region 4 with (first | (refine wpList_build0 rfl rfl ?_) | (at_builtin; refine wpList_append_srcN rfl _ _ 43 rfl w.heap.size 35 i35 _ 19 152 Try.underlying43 I35.out Z35.out S35.out B35.out (buArr_size bk0) (by omega) rfl HO1.out rfl HS1.out HPO.out (by simp only [maxLen]; omega) (by omega) HBW0.out.size ?_; intro v1 W3 hown1 hgrow1 _; have HB3 := Lib.hid (HBW0.out.grown hgrow1 HBW0.out.size (fun j hj => (HO1.out.lt j hj).1)); rw [Nat.zero_add, List.nil_append] at hown1; have HO3 := Lib.hid hown1; clear hown1 hgrow1))
  obtain ⟨G, gcap, hv1⟩ : ∃ G gcap, v1 = .slice (some ⟨G, 0, none⟩) n gcap := by
    obtain ⟨n', rfl⟩ : ∃ n', n = n' + 1 := ⟨n - 1, by omega⟩
    exact ownsRow_succ HO3.out
  subst hv1
  have hGb := (HO3.out.lt G rfl).1
  have HK := Lib.hid (fun (w' : World) (hb' : Below w.heap.size w w') (i o : Nat) (hi : i < n) (ho : o < 19) => show w'.cell? ⟨g, i * 19 + o, none⟩ = some (.int (buKind o) (bs i o)) from (hb'.cell (p := ⟨g, i * 19 + o, none⟩) HGL.out).trans (HX.out i o hi ho))
  have c17 := HK.out W3 HB3.out b 17 hb (by omega)
  have c0 := HK.out W3 HB3.out b 0 hb (by omega)
  rw [show buKind 17 = .i64 from rfl] at c17
  rw [show buKind 0 = .i64 from rfl, Nat.add_zero] at c0
  clear HO1 HS1 HPO HBW0 HI
  rw [h1] at c17
  obtain ⟨u, hue⟩ := Int.eq_ofNat_of_zero_le (show 0 ≤ bs b 0 by omega)
  have hun : u < n := by omega
  rw [hue, Int.toNat_natCast] at h3
  have cu := HK.out W3 HB3.out u 17 hun (by omega)
  rw [show buKind 17 = .i64 from rfl] at cu
  rw [hue] at c0
  have hne1 : ((u : Int) == -1) = false := by first | (simp; done) | (simp; omega)
  rw [h3] at cu
  clear hue h2 h3 hup
  go_upto_region 11 with fail
  obtain ⟨W4, hW4⟩ : ∃ W4, W3.alloc (.cells #[.int .i64 b] 3) = W4 := ⟨_, rfl⟩
  obtain ⟨T, hT⟩ : ∃ T, W3.heap.size = T := ⟨_, rfl⟩
  have HB4 := Lib.hid (show Below w.heap.size w W4 by rw [← hW4]; exact HB3.out.alloc HB3.out.size _)
  have HO4 := Lib.hid (show W4.ownsRow w.heap.size 35 19 (.slice (some ⟨G, 0, none⟩) n gcap) n (flat bs n) by rw [← hW4]; exact HO3.out.alloc _)
  have HT4 := Lib.hid (show W4.ownsRow w.heap.size 3 1 (.slice (some ⟨T, 0, none⟩) 1 1) 1 (intsL [b]) by rw [← hW4, ← hT]; exact World.ownsRow_lit W3 #[.int .i64 b] 1 HB3.out.size (by decide) rfl)
  have hTG : T ≠ G := by have := (HO3.out.lt G rfl).2; omega
  rw [hW4, hT]
  clear hW4 hT HO3 HB3 c17 c0 cu
  have d17 := own_cell HO4.out hb (o := 17) (by omega)
  have d18 := own_cell HO4.out hb (o := 18) (by omega)
  rw [show buKind 17 = .i64 from rfl] at d17
  rw [show buKind 18 = .i64 from rfl] at d18
  have f17 : W4.frozen? ⟨G, b * 19 + 17, none⟩ = false := HO4.out.frozenAt _
  have f18 : W4.frozen? ⟨G, b * 19 + 18, none⟩ = false := HO4.out.frozenAt _
  have hW1 := own_wcell HO4.out hb (o := 17) (by omega) (k := IntKind.i64) rfl 3
  have hW2 := own_wcell hW1 hb (o := 18) (by omega) (k := IntKind.i64) rfl home
  rw [updT_same, updT_two] at hW2
  have HW := Lib.hid hW2
  have HBE := Lib.hid ((HB4.out.setCell (p := ⟨G, b * 19 + 17, none⟩) hGb (.int .i64 3)).setCell (p := ⟨G, b * 19 + 18, none⟩) hGb (.int .i64 home))
  have HTE := Lib.hid (own_of_heap (w' := (W4.setCell ⟨G, b * 19 + 17, none⟩ (.int .i64 3)).setCell ⟨G, b * 19 + 18, none⟩ (.int .i64 home)) HT4.out fun j hj => (Below.heap_setCell _ _ _ _ (by cases hj; exact hTG)).trans (Below.heap_setCell _ _ _ _ (by cases hj; exact hTG)))
  clear hW1 hW2
  go_wp2_with fail
  go_ret3
  exact ⟨_, _, rfl, SlB.own HW.out, fun g' hg' => .inr (HW.out.lt g' hg').1, HTE.out, HBE.out⟩

set_option maxRecDepth 100000 in
set_option maxHeartbeats 4000000 in
theorem RT_place_bad2 (h : SlB w v n bs) (hups : Ups n bs) (hn : n ≤ 32) (b : Nat) (hb : b < n) (home : Int) (h1 : bs b 17 = 2) (h2 : bs b 0 ≠ -1) (h3 : bs (bs b 0).toNat 17 ≠ 4) : Calls Try.prog 34 #[v, .int .i64 3, .int .i64 b, .int .i64 home] w (RTurnTo w v n (5, [], bs)) := by
  have HI := Lib.hid (RIs_any h b)
  rw [show isB n (b : Int) = true by unfold isB; exact decide_eq_true ⟨by omega, by omega⟩] at HI
  have hbI : (b : Int) < n := by omega
  have hup := hups b hb
  have HU := Lib.hid hups
  have HS := Lib.hid h
  have HBW0 := Lib.hid ((Below.refl w.heap.size w).alloc (Nat.le_refl _) (.cells #[] 35))
  have HO1 := Lib.hid (show (w.alloc (.cells #[] 35)).ownsRow w.heap.size 35 19 (.slice (some ⟨w.heap.size, 0, none⟩) 0 0) 0 [] from World.ownsRow_made w #[] 0 (Nat.le_refl _) (by decide) rfl)
  have HS1 := Lib.hid ((h.below HBW0.out).src)
  have HPO := Lib.hid (flat_one bs n)
  obtain ⟨i35, I35, Z35, S35, B35⟩ := info_parts Try.info35
  have I35 := Lib.hid I35
  have Z35 := Lib.hid Z35
  have S35 := Lib.hid S35
  have B35 := Lib.hid B35
  obtain ⟨a, cap, rfl, hg⟩ := h
  obtain ⟨g, rfl, hx⟩ := hg (by omega)
  have HX := Lib.hid hx
  have HGL := Lib.hid (show g < w.heap.size from World.block_lt_of_cell? _ _ (hx b 0 hb (by omega)))
  clear hx hg hups
  go_enter Try.func34, Try.ntmps34
  go_wp2_with fail
  refine HI.out.mono ?_
  rintro r w' ⟨rfl, rfl⟩
  go_upto_region 4 with (first | (refine wpList_build0 rfl rfl ?_) | (at_builtin; refine wpList_append_srcN rfl _ _ 43 rfl w.heap.size 35 i35 _ 19 152 Try.underlying43 I35.out Z35.out S35.out B35.out (buArr_size bk0) (by omega) rfl HO1.out rfl HS1.out HPO.out (by simp only [maxLen]; omega) (by omega) HBW0.out.size ?_; intro v1 W3 hown1 hgrow1 _; have HB3 := Lib.hid (HBW0.out.grown hgrow1 HBW0.out.size (fun j hj => (HO1.out.lt j hj).1)); rw [Nat.zero_add, List.nil_append] at hown1; have HO3 := Lib.hid hown1; clear hown1 hgrow1))
  obtain ⟨G, gcap, hv1⟩ : ∃ G gcap, v1 = .slice (some ⟨G, 0, none⟩) n gcap := by
    obtain ⟨n', rfl⟩ : ∃ n', n = n' + 1 := ⟨n - 1, by omega⟩
    exact ownsRow_succ HO3.out
  subst hv1
  have hGb := (HO3.out.lt G rfl).1
  have HK := Lib.hid (fun (w' : World) (hb' : Below w.heap.size w w') (i o : Nat) (hi : i < n) (ho : o < 19) => show w'.cell? ⟨g, i * 19 + o, none⟩ = some (.int (buKind o) (bs i o)) from (hb'.cell (p := ⟨g, i * 19 + o, none⟩) HGL.out).trans (HX.out i o hi ho))
  have c17 := HK.out W3 HB3.out b 17 hb (by omega)
  have c0 := HK.out W3 HB3.out b 0 hb (by omega)
  rw [show buKind 17 = .i64 from rfl] at c17
  rw [show buKind 0 = .i64 from rfl, Nat.add_zero] at c0
  clear HO1 HS1 HPO HBW0 HI
  rw [h1] at c17
  obtain ⟨u, hue⟩ := Int.eq_ofNat_of_zero_le (show 0 ≤ bs b 0 by omega)
  have hun : u < n := by omega
  rw [hue, Int.toNat_natCast] at h3
  have cu := HK.out W3 HB3.out u 17 hun (by omega)
  rw [show buKind 17 = .i64 from rfl] at cu
  rw [hue] at c0
  have hne1 : ((u : Int) == -1) = false := by first | (simp; done) | (simp; omega)
  have n4 : (bs u 17 == 4) = false := by simpa using h3
  clear hue h2 h3 hup
  generalize bs u 17 = st at *
  have HEND := Lib.hid (SlB.below HS.out HB3.out)
  go_wp2_with fail
  go_ret3
  exact ⟨_, _, rfl, HEND.out, fun g hg => .inl hg, World.ownsRow_nil _ _ _ _, HB3.out⟩

set_option maxRecDepth 100000 in
set_option maxHeartbeats 4000000 in
theorem RT_place_top3 (h : SlB w v n bs) (hups : Ups n bs) (hn : n ≤ 32) (b : Nat) (hb : b < n) (home : Int) (h1 : bs b 17 = 3) (h2 : bs b 0 = -1) : Calls Try.prog 34 #[v, .int .i64 3, .int .i64 b, .int .i64 home] w (RTurnTo w v n (0, [b], updT bs b (setO (setO (bs b) 17 3) 18 home))) := by
  have HI := Lib.hid (RIs_any h b)
  rw [show isB n (b : Int) = true by unfold isB; exact decide_eq_true ⟨by omega, by omega⟩] at HI
  have hbI : (b : Int) < n := by omega
  have hup := hups b hb
  have HU := Lib.hid hups
  have HS := Lib.hid h
  have HBW0 := Lib.hid ((Below.refl w.heap.size w).alloc (Nat.le_refl _) (.cells #[] 35))
  have HO1 := Lib.hid (show (w.alloc (.cells #[] 35)).ownsRow w.heap.size 35 19 (.slice (some ⟨w.heap.size, 0, none⟩) 0 0) 0 [] from World.ownsRow_made w #[] 0 (Nat.le_refl _) (by decide) rfl)
  have HS1 := Lib.hid ((h.below HBW0.out).src)
  have HPO := Lib.hid (flat_one bs n)
  obtain ⟨i35, I35, Z35, S35, B35⟩ := info_parts Try.info35
  have I35 := Lib.hid I35
  have Z35 := Lib.hid Z35
  have S35 := Lib.hid S35
  have B35 := Lib.hid B35
  obtain ⟨a, cap, rfl, hg⟩ := h
  obtain ⟨g, rfl, hx⟩ := hg (by omega)
  have HX := Lib.hid hx
  have HGL := Lib.hid (show g < w.heap.size from World.block_lt_of_cell? _ _ (hx b 0 hb (by omega)))
  clear hx hg hups
  go_enter Try.func34, Try.ntmps34
  go_wp2_with fail
  refine HI.out.mono ?_
  rintro r w' ⟨rfl, rfl⟩
  go_upto_region 4 with (first | (refine wpList_build0 rfl rfl ?_) | (at_builtin; refine wpList_append_srcN rfl _ _ 43 rfl w.heap.size 35 i35 _ 19 152 Try.underlying43 I35.out Z35.out S35.out B35.out (buArr_size bk0) (by omega) rfl HO1.out rfl HS1.out HPO.out (by simp only [maxLen]; omega) (by omega) HBW0.out.size ?_; intro v1 W3 hown1 hgrow1 _; have HB3 := Lib.hid (HBW0.out.grown hgrow1 HBW0.out.size (fun j hj => (HO1.out.lt j hj).1)); rw [Nat.zero_add, List.nil_append] at hown1; have HO3 := Lib.hid hown1; clear hown1 hgrow1))
  obtain ⟨G, gcap, hv1⟩ : ∃ G gcap, v1 = .slice (some ⟨G, 0, none⟩) n gcap := by
    obtain ⟨n', rfl⟩ : ∃ n', n = n' + 1 := ⟨n - 1, by omega⟩
    exact ownsRow_succ HO3.out
  subst hv1
  have hGb := (HO3.out.lt G rfl).1
  have HK := Lib.hid (fun (w' : World) (hb' : Below w.heap.size w w') (i o : Nat) (hi : i < n) (ho : o < 19) => show w'.cell? ⟨g, i * 19 + o, none⟩ = some (.int (buKind o) (bs i o)) from (hb'.cell (p := ⟨g, i * 19 + o, none⟩) HGL.out).trans (HX.out i o hi ho))
  have c17 := HK.out W3 HB3.out b 17 hb (by omega)
  have c0 := HK.out W3 HB3.out b 0 hb (by omega)
  rw [show buKind 17 = .i64 from rfl] at c17
  rw [show buKind 0 = .i64 from rfl, Nat.add_zero] at c0
  clear HO1 HS1 HPO HBW0 HI
  rw [h1] at c17
  rw [h2] at c0
  go_upto_region 11 with fail
  obtain ⟨W4, hW4⟩ : ∃ W4, W3.alloc (.cells #[.int .i64 b] 3) = W4 := ⟨_, rfl⟩
  obtain ⟨T, hT⟩ : ∃ T, W3.heap.size = T := ⟨_, rfl⟩
  have HB4 := Lib.hid (show Below w.heap.size w W4 by rw [← hW4]; exact HB3.out.alloc HB3.out.size _)
  have HO4 := Lib.hid (show W4.ownsRow w.heap.size 35 19 (.slice (some ⟨G, 0, none⟩) n gcap) n (flat bs n) by rw [← hW4]; exact HO3.out.alloc _)
  have HT4 := Lib.hid (show W4.ownsRow w.heap.size 3 1 (.slice (some ⟨T, 0, none⟩) 1 1) 1 (intsL [b]) by rw [← hW4, ← hT]; exact World.ownsRow_lit W3 #[.int .i64 b] 1 HB3.out.size (by decide) rfl)
  have hTG : T ≠ G := by have := (HO3.out.lt G rfl).2; omega
  rw [hW4, hT]
  clear hW4 hT HO3 HB3 c17 c0
  have d17 := own_cell HO4.out hb (o := 17) (by omega)
  have d18 := own_cell HO4.out hb (o := 18) (by omega)
  rw [show buKind 17 = .i64 from rfl] at d17
  rw [show buKind 18 = .i64 from rfl] at d18
  have f17 : W4.frozen? ⟨G, b * 19 + 17, none⟩ = false := HO4.out.frozenAt _
  have f18 : W4.frozen? ⟨G, b * 19 + 18, none⟩ = false := HO4.out.frozenAt _
  have hW1 := own_wcell HO4.out hb (o := 17) (by omega) (k := IntKind.i64) rfl 3
  have hW2 := own_wcell hW1 hb (o := 18) (by omega) (k := IntKind.i64) rfl home
  rw [updT_same, updT_two] at hW2
  have HW := Lib.hid hW2
  have HBE := Lib.hid ((HB4.out.setCell (p := ⟨G, b * 19 + 17, none⟩) hGb (.int .i64 3)).setCell (p := ⟨G, b * 19 + 18, none⟩) hGb (.int .i64 home))
  have HTE := Lib.hid (own_of_heap (w' := (W4.setCell ⟨G, b * 19 + 17, none⟩ (.int .i64 3)).setCell ⟨G, b * 19 + 18, none⟩ (.int .i64 home)) HT4.out fun j hj => (Below.heap_setCell _ _ _ _ (by cases hj; exact hTG)).trans (Below.heap_setCell _ _ _ _ (by cases hj; exact hTG)))
  clear hW1 hW2
  go_wp2_with fail
  go_ret3
  exact ⟨_, _, rfl, SlB.own HW.out, fun g' hg' => .inr (HW.out.lt g' hg').1, HTE.out, HBE.out⟩

set_option maxRecDepth 100000 in
set_option maxHeartbeats 4000000 in
theorem RT_place_in3 (h : SlB w v n bs) (hups : Ups n bs) (hn : n ≤ 32) (b : Nat) (hb : b < n) (home : Int) (h1 : bs b 17 = 3) (h2 : bs b 0 ≠ -1) (h3 : bs (bs b 0).toNat 17 = 4) : Calls Try.prog 34 #[v, .int .i64 3, .int .i64 b, .int .i64 home] w (RTurnTo w v n (0, [b], updT bs b (setO (setO (bs b) 17 3) 18 home))) := by
  have HI := Lib.hid (RIs_any h b)
  rw [show isB n (b : Int) = true by unfold isB; exact decide_eq_true ⟨by omega, by omega⟩] at HI
  have hbI : (b : Int) < n := by omega
  have hup := hups b hb
  have HU := Lib.hid hups
  have HS := Lib.hid h
  have HBW0 := Lib.hid ((Below.refl w.heap.size w).alloc (Nat.le_refl _) (.cells #[] 35))
  have HO1 := Lib.hid (show (w.alloc (.cells #[] 35)).ownsRow w.heap.size 35 19 (.slice (some ⟨w.heap.size, 0, none⟩) 0 0) 0 [] from World.ownsRow_made w #[] 0 (Nat.le_refl _) (by decide) rfl)
  have HS1 := Lib.hid ((h.below HBW0.out).src)
  have HPO := Lib.hid (flat_one bs n)
  obtain ⟨i35, I35, Z35, S35, B35⟩ := info_parts Try.info35
  have I35 := Lib.hid I35
  have Z35 := Lib.hid Z35
  have S35 := Lib.hid S35
  have B35 := Lib.hid B35
  obtain ⟨a, cap, rfl, hg⟩ := h
  obtain ⟨g, rfl, hx⟩ := hg (by omega)
  have HX := Lib.hid hx
  have HGL := Lib.hid (show g < w.heap.size from World.block_lt_of_cell? _ _ (hx b 0 hb (by omega)))
  clear hx hg hups
  go_enter Try.func34, Try.ntmps34
  go_wp2_with fail
  refine HI.out.mono ?_
  rintro r w' ⟨rfl, rfl⟩
  go_upto_region 4 with (first | (refine wpList_build0 rfl rfl ?_) | (at_builtin; refine wpList_append_srcN rfl _ _ 43 rfl w.heap.size 35 i35 _ 19 152 Try.underlying43 I35.out Z35.out S35.out B35.out (buArr_size bk0) (by omega) rfl HO1.out rfl HS1.out HPO.out (by simp only [maxLen]; omega) (by omega) HBW0.out.size ?_; intro v1 W3 hown1 hgrow1 _; have HB3 := Lib.hid (HBW0.out.grown hgrow1 HBW0.out.size (fun j hj => (HO1.out.lt j hj).1)); rw [Nat.zero_add, List.nil_append] at hown1; have HO3 := Lib.hid hown1; clear hown1 hgrow1))
  obtain ⟨G, gcap, hv1⟩ : ∃ G gcap, v1 = .slice (some ⟨G, 0, none⟩) n gcap := by
    obtain ⟨n', rfl⟩ : ∃ n', n = n' + 1 := ⟨n - 1, by omega⟩
    exact ownsRow_succ HO3.out
  subst hv1
  have hGb := (HO3.out.lt G rfl).1
  have HK := Lib.hid (fun (w' : World) (hb' : Below w.heap.size w w') (i o : Nat) (hi : i < n) (ho : o < 19) => show w'.cell? ⟨g, i * 19 + o, none⟩ = some (.int (buKind o) (bs i o)) from (hb'.cell (p := ⟨g, i * 19 + o, none⟩) HGL.out).trans (HX.out i o hi ho))
  have c17 := HK.out W3 HB3.out b 17 hb (by omega)
  have c0 := HK.out W3 HB3.out b 0 hb (by omega)
  rw [show buKind 17 = .i64 from rfl] at c17
  rw [show buKind 0 = .i64 from rfl, Nat.add_zero] at c0
  clear HO1 HS1 HPO HBW0 HI
  rw [h1] at c17
  obtain ⟨u, hue⟩ := Int.eq_ofNat_of_zero_le (show 0 ≤ bs b 0 by omega)
  have hun : u < n := by omega
  rw [hue, Int.toNat_natCast] at h3
  have cu := HK.out W3 HB3.out u 17 hun (by omega)
  rw [show buKind 17 = .i64 from rfl] at cu
  rw [hue] at c0
  have hne1 : ((u : Int) == -1) = false := by first | (simp; done) | (simp; omega)
  rw [h3] at cu
  clear hue h2 h3 hup
  go_upto_region 11 with fail
  obtain ⟨W4, hW4⟩ : ∃ W4, W3.alloc (.cells #[.int .i64 b] 3) = W4 := ⟨_, rfl⟩
  obtain ⟨T, hT⟩ : ∃ T, W3.heap.size = T := ⟨_, rfl⟩
  have HB4 := Lib.hid (show Below w.heap.size w W4 by rw [← hW4]; exact HB3.out.alloc HB3.out.size _)
  have HO4 := Lib.hid (show W4.ownsRow w.heap.size 35 19 (.slice (some ⟨G, 0, none⟩) n gcap) n (flat bs n) by rw [← hW4]; exact HO3.out.alloc _)
  have HT4 := Lib.hid (show W4.ownsRow w.heap.size 3 1 (.slice (some ⟨T, 0, none⟩) 1 1) 1 (intsL [b]) by rw [← hW4, ← hT]; exact World.ownsRow_lit W3 #[.int .i64 b] 1 HB3.out.size (by decide) rfl)
  have hTG : T ≠ G := by have := (HO3.out.lt G rfl).2; omega
  rw [hW4, hT]
  clear hW4 hT HO3 HB3 c17 c0 cu
  have d17 := own_cell HO4.out hb (o := 17) (by omega)
  have d18 := own_cell HO4.out hb (o := 18) (by omega)
  rw [show buKind 17 = .i64 from rfl] at d17
  rw [show buKind 18 = .i64 from rfl] at d18
  have f17 : W4.frozen? ⟨G, b * 19 + 17, none⟩ = false := HO4.out.frozenAt _
  have f18 : W4.frozen? ⟨G, b * 19 + 18, none⟩ = false := HO4.out.frozenAt _
  have hW1 := own_wcell HO4.out hb (o := 17) (by omega) (k := IntKind.i64) rfl 3
  have hW2 := own_wcell hW1 hb (o := 18) (by omega) (k := IntKind.i64) rfl home
  rw [updT_same, updT_two] at hW2
  have HW := Lib.hid hW2
  have HBE := Lib.hid ((HB4.out.setCell (p := ⟨G, b * 19 + 17, none⟩) hGb (.int .i64 3)).setCell (p := ⟨G, b * 19 + 18, none⟩) hGb (.int .i64 home))
  have HTE := Lib.hid (own_of_heap (w' := (W4.setCell ⟨G, b * 19 + 17, none⟩ (.int .i64 3)).setCell ⟨G, b * 19 + 18, none⟩ (.int .i64 home)) HT4.out fun j hj => (Below.heap_setCell _ _ _ _ (by cases hj; exact hTG)).trans (Below.heap_setCell _ _ _ _ (by cases hj; exact hTG)))
  clear hW1 hW2
  go_wp2_with fail
  go_ret3
  exact ⟨_, _, rfl, SlB.own HW.out, fun g' hg' => .inr (HW.out.lt g' hg').1, HTE.out, HBE.out⟩

set_option maxRecDepth 100000 in
set_option maxHeartbeats 4000000 in
theorem RT_place_bad3 (h : SlB w v n bs) (hups : Ups n bs) (hn : n ≤ 32) (b : Nat) (hb : b < n) (home : Int) (h1 : bs b 17 = 3) (h2 : bs b 0 ≠ -1) (h3 : bs (bs b 0).toNat 17 ≠ 4) : Calls Try.prog 34 #[v, .int .i64 3, .int .i64 b, .int .i64 home] w (RTurnTo w v n (5, [], bs)) := by
  have HI := Lib.hid (RIs_any h b)
  rw [show isB n (b : Int) = true by unfold isB; exact decide_eq_true ⟨by omega, by omega⟩] at HI
  have hbI : (b : Int) < n := by omega
  have hup := hups b hb
  have HU := Lib.hid hups
  have HS := Lib.hid h
  have HBW0 := Lib.hid ((Below.refl w.heap.size w).alloc (Nat.le_refl _) (.cells #[] 35))
  have HO1 := Lib.hid (show (w.alloc (.cells #[] 35)).ownsRow w.heap.size 35 19 (.slice (some ⟨w.heap.size, 0, none⟩) 0 0) 0 [] from World.ownsRow_made w #[] 0 (Nat.le_refl _) (by decide) rfl)
  have HS1 := Lib.hid ((h.below HBW0.out).src)
  have HPO := Lib.hid (flat_one bs n)
  obtain ⟨i35, I35, Z35, S35, B35⟩ := info_parts Try.info35
  have I35 := Lib.hid I35
  have Z35 := Lib.hid Z35
  have S35 := Lib.hid S35
  have B35 := Lib.hid B35
  obtain ⟨a, cap, rfl, hg⟩ := h
  obtain ⟨g, rfl, hx⟩ := hg (by omega)
  have HX := Lib.hid hx
  have HGL := Lib.hid (show g < w.heap.size from World.block_lt_of_cell? _ _ (hx b 0 hb (by omega)))
  clear hx hg hups
  go_enter Try.func34, Try.ntmps34
  go_wp2_with fail
  refine HI.out.mono ?_
  rintro r w' ⟨rfl, rfl⟩
  go_upto_region 4 with (first | (refine wpList_build0 rfl rfl ?_) | (at_builtin; refine wpList_append_srcN rfl _ _ 43 rfl w.heap.size 35 i35 _ 19 152 Try.underlying43 I35.out Z35.out S35.out B35.out (buArr_size bk0) (by omega) rfl HO1.out rfl HS1.out HPO.out (by simp only [maxLen]; omega) (by omega) HBW0.out.size ?_; intro v1 W3 hown1 hgrow1 _; have HB3 := Lib.hid (HBW0.out.grown hgrow1 HBW0.out.size (fun j hj => (HO1.out.lt j hj).1)); rw [Nat.zero_add, List.nil_append] at hown1; have HO3 := Lib.hid hown1; clear hown1 hgrow1))
  obtain ⟨G, gcap, hv1⟩ : ∃ G gcap, v1 = .slice (some ⟨G, 0, none⟩) n gcap := by
    obtain ⟨n', rfl⟩ : ∃ n', n = n' + 1 := ⟨n - 1, by omega⟩
    exact ownsRow_succ HO3.out
  subst hv1
  have hGb := (HO3.out.lt G rfl).1
  have HK := Lib.hid (fun (w' : World) (hb' : Below w.heap.size w w') (i o : Nat) (hi : i < n) (ho : o < 19) => show w'.cell? ⟨g, i * 19 + o, none⟩ = some (.int (buKind o) (bs i o)) from (hb'.cell (p := ⟨g, i * 19 + o, none⟩) HGL.out).trans (HX.out i o hi ho))
  have c17 := HK.out W3 HB3.out b 17 hb (by omega)
  have c0 := HK.out W3 HB3.out b 0 hb (by omega)
  rw [show buKind 17 = .i64 from rfl] at c17
  rw [show buKind 0 = .i64 from rfl, Nat.add_zero] at c0
  clear HO1 HS1 HPO HBW0 HI
  rw [h1] at c17
  obtain ⟨u, hue⟩ := Int.eq_ofNat_of_zero_le (show 0 ≤ bs b 0 by omega)
  have hun : u < n := by omega
  rw [hue, Int.toNat_natCast] at h3
  have cu := HK.out W3 HB3.out u 17 hun (by omega)
  rw [show buKind 17 = .i64 from rfl] at cu
  rw [hue] at c0
  have hne1 : ((u : Int) == -1) = false := by first | (simp; done) | (simp; omega)
  have n4 : (bs u 17 == 4) = false := by simpa using h3
  clear hue h2 h3 hup
  generalize bs u 17 = st at *
  have HEND := Lib.hid (SlB.below HS.out HB3.out)
  go_wp2_with fail
  go_ret3
  exact ⟨_, _, rfl, HEND.out, fun g hg => .inl hg, World.ownsRow_nil _ _ _ _, HB3.out⟩

theorem RT_place (h : SlB w v n bs) (hups : Ups n bs) (hn : n ≤ 32) (b home : Int) : Calls Try.prog 34 #[v, .int .i64 3, .int .i64 b, .int .i64 home] w (RTurnTo w v n ((placeD n bs b home).1, (if (placeD n bs b home).1 = 0 then [b.toNat] else []), (placeD n bs b home).2)) := by
  unfold placeD
  cases hb : isB n b with
  | false =>
    rw [if_neg (by simp)]
    exact RT_no h 3 b home hb
  | true =>
    rw [if_pos rfl]
    obtain ⟨b0, b1⟩ := isB_iff.1 hb
    obtain ⟨b, rfl⟩ := Int.eq_ofNat_of_zero_le b0
    have hc : b < n := by omega
    rw [Int.toNat_natCast]
    by_cases e : bs b 17 = 2 ∨ bs b 17 = 3
    · rw [if_pos e]
      by_cases e2 : bs b 0 ≠ -1 ∧ bs (bs b 0).toNat 17 ≠ 4
      · rw [if_pos e2]
        rcases e with e | e
        · exact RT_place_bad2 h hups hn b hc home e e2.1 e2.2
        · exact RT_place_bad3 h hups hn b hc home e e2.1 e2.2
      · rw [if_neg e2]
        by_cases e3 : bs b 0 = -1
        · rcases e with e | e
          · exact RT_place_top2 h hups hn b hc home e e3
          · exact RT_place_top3 h hups hn b hc home e e3
        · have e4 : bs (bs b 0).toNat 17 = 4 := Classical.byContradiction fun h4 => e2 ⟨e3, h4⟩
          rcases e with e | e
          · exact RT_place_in2 h hups hn b hc home e e3 e4
          · exact RT_place_in3 h hups hn b hc home e e3 e4
    · rw [if_neg e]
      exact RT_place_no h hups hn b hc home (fun h => e (.inl h)) (fun h => e (.inr h))

theorem RT_sealA (h : SlB w v n bs) (hups : Ups n bs) (hn : n ≤ 32) (b home : Int) : Calls Try.prog 34 #[v, .int .i64 2, .int .i64 b, .int .i64 home] w (RTurnTo w v n ((sealD n bs b).1, (if (sealD n bs b).1 = 0 then [b.toNat] else []), (sealD n bs b).2)) := by
  unfold sealD
  cases hb : isB n b with
  | false =>
    rw [if_neg (by simp)]
    exact RT_no h 2 b home hb
  | true =>
    rw [if_pos rfl]
    obtain ⟨b0, b1⟩ := isB_iff.1 hb
    obtain ⟨b, rfl⟩ := Int.eq_ofNat_of_zero_le b0
    have hc : b < n := by omega
    rw [Int.toNat_natCast]
    by_cases e : bs b 17 = 1
    · rw [if_pos e]
      exact RT_seal h hups hn b hc home e
    · rw [if_neg e]
      exact RT_seal_no h hups hn b hc home e
end
end Go.Proofs.Ytmbdhpibkhgkcaa
