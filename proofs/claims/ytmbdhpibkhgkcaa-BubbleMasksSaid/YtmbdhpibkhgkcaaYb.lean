/- The document's Turn (package pinfoldref13): Burst and Regen. No condition. -/
import Derived.Test.YtmbdhpibkhgkcaaYa
namespace Go.Proofs.Ytmbdhpibkhgkcaa
open Go.RowKit

theorem src_new1 (W : World) (a : Value) (t : TypeId) : SrcN (W.alloc (.cells #[a] t)) (.slice (some ⟨W.heap.size, 0, none⟩) 1 1) 1 1 [a] := by
  refine ⟨_, _, rfl, rfl, .inr ⟨_, rfl, fun j u hu => ?_⟩⟩
  match j, hu with
  | 0, hu => simp at hu; subst hu; simp [Addr.add]

/-- At the head of the loop of the document's Turn. -/
def RLoop (w : World) (n G gcap b : Nat) (own : Nat → Bool) (tr : Bk → Bk) (bs : Nat → Bk) (k : Nat) (y : Value) (wr : World) : Prop :=
  wr.ownsRow w.heap.size 35 19 (.slice (some ⟨G, 0, none⟩) n gcap) n (flat (bsK own tr bs k) n) ∧ wr.ownsRow w.heap.size 3 1 y (b :: ownL own k).length (intsL (b :: ownL own k)) ∧ y.ownBlock ≠ some G ∧ Below w.heap.size w wr

theorem ownB_same {n : Nat} {bs : Nat → Bk} (hu : Ups n bs) {b : Nat} (hb : b < n) {i : Nat} (hi : i < n) : ownB (updT bs b (setO (bs b) 17 4)) b i = ownB bs b i := by
  unfold ownB
  by_cases e : i = b
  · subst e
    have h := hu i hi
    have h1 : (bs i 0 == (i : Int)) = false := by simp; omega
    have h2 : (updT bs i (setO (bs i) 17 4) i 0 == (i : Int)) = false := by rw [updT_same]; exact h1
    rw [h1, h2]
    rfl
  · rw [updT_other _ _ e]
theorem innB_same {n : Nat} {bs : Nat → Bk} {b : Nat} (home : Int) (i : Nat) : innB n (updT bs b (setO (setO (bs b) 17 3) 18 home)) b i = innB n bs b i := by
  have hu : ∀ k, updT bs b (setO (setO (bs b) 17 3) 18 home) k 0 = bs k 0 := by
    intro k
    by_cases e : k = b
    · subst e; rw [updT_same]; rfl
    · rw [updT_other _ _ e]
  unfold innB
  rw [insD_congr hu]
  by_cases e : i = b
  · subst e; simp
  · rw [updT_other _ _ e]
theorem rIn_ins {n : Nat} {bs : Nat → Bk} (hu : Ups n bs) {b : Nat} (hb : b < n) {i : Nat} (hi : i < n) : rInD n bs i b = insD n bs i b := by
  unfold rInD insD wayD
  rw [ins_way hu (by omega) _ _ (by omega) (by omega)]
  rw [show isB n (i : Int) = true from isB_iff.2 ⟨by omega, by omega⟩, show isB n (b : Int) = true from isB_iff.2 ⟨by omega, by omega⟩]
  rfl
theorem ownL_congr {own own' : Nat → Bool} : ∀ {k n : Nat}, k ≤ n → (∀ i, i < n → own i = own' i) → ownL own k = ownL own' k := by
  intro k n hk h
  unfold ownL
  apply List.filter_congr
  intro i hi
  exact h i (Nat.lt_of_lt_of_le (List.mem_range.1 hi) hk)
theorem bsK_congr {own own' : Nat → Bool} (tr : Bk → Bk) (bs : Nat → Bk) {n : Nat} (h : ∀ i, i < n → own i = own' i) : bsK own tr bs n = bsK own' tr bs n := by
  funext i
  unfold bsK
  by_cases hi : i < n
  · rw [h i hi]
  · rw [if_neg (fun h => hi h.1), if_neg (fun h => hi h.1)]

section
variable {w w' : World} {n : Nat} {v : Value} {bs : Nat → Bk}

set_option maxRecDepth 100000 in
set_option maxHeartbeats 4000000 in
theorem RT_burst_no (h : SlB w v n bs) (hups : Ups n bs) (hn : n ≤ 32) (b : Nat) (hb : b < n) (home : Int) (h1 : bs b 17 ≠ 3) : Calls Try.prog 34 #[v, .int .i64 4, .int .i64 b, .int .i64 home] w (RTurnTo w v n (5, [], bs)) := by
  have HI := Lib.hid (RIs_any h b)
  rw [show isB n (b : Int) = true by unfold isB; exact decide_eq_true ⟨by omega, by omega⟩] at HI
  have hbI : (b : Int) < n := by omega
  have hup := hups b hb
  have HU := Lib.hid hups
  have HS := Lib.hid h
  have HBW0 := Lib.hid ((Below.refl w.heap.size w).alloc (Nat.le_refl _) (.cells #[] 35))
  have HO1 := Lib.hid (show (w.alloc (.cells #[] 35)).ownsRow w.heap.size 35 19 (.slice (some ⟨w.heap.size, 0, none⟩) 0 0) 0 [] from World.ownsRow_made w #[] 0 (Nat.le_refl _) (by decide) rfl)
  have HS1 := Lib.hid ((h.below HBW0.out).src)
  have HPO := Lib.hid (flat_one bs n)
  obtain ⟨i35, I35, Z35, S35, B35⟩ := info_parts Try.info35
  have I35 := Lib.hid I35
  have Z35 := Lib.hid Z35
  have S35 := Lib.hid S35
  have B35 := Lib.hid B35
  obtain ⟨a, cap, rfl, hg⟩ := h
  obtain ⟨g, rfl, hx⟩ := hg (by omega)
  have HX := Lib.hid hx
  have HGL := Lib.hid (show g < w.heap.size from World.block_lt_of_cell? _ _ (hx b 0 hb (by omega)))
  clear hx hg hups
  go_enter Try.func34, Try.ntmps34
  go_wp2_with fail
  refine HI.out.mono ?_
  rintro r w' ⟨rfl, rfl⟩
  go_upto_region 4 with (first | (refine wpList_build0 rfl rfl ?_) | (at_builtin; refine wpList_append_srcN rfl _ _ 43 rfl w.heap.size 35 i35 _ 19 152 Try.underlying43 I35.out Z35.out S35.out B35.out (buArr_size bk0) (by omega) rfl HO1.out rfl HS1.out HPO.out (by simp only [maxLen]; omega) (by omega) HBW0.out.size ?_; intro v1 W3 hown1 hgrow1 _; have HB3 := Lib.hid (HBW0.out.grown hgrow1 HBW0.out.size (fun j hj => (HO1.out.lt j hj).1)); rw [Nat.zero_add, List.nil_append] at hown1; have HO3 := Lib.hid hown1; clear hown1 hgrow1))
  obtain ⟨G, gcap, hv1⟩ : ∃ G gcap, v1 = .slice (some ⟨G, 0, none⟩) n gcap := by
    obtain ⟨n', rfl⟩ : ∃ n', n = n' + 1 := ⟨n - 1, by omega⟩
    exact ownsRow_succ HO3.out
  subst hv1
  have hGb := (HO3.out.lt G rfl).1
  have HK := Lib.hid (fun (w' : World) (hb' : Below w.heap.size w w') (i o : Nat) (hi : i < n) (ho : o < 19) => show w'.cell? ⟨g, i * 19 + o, none⟩ = some (.int (buKind o) (bs i o)) from (hb'.cell (p := ⟨g, i * 19 + o, none⟩) HGL.out).trans (HX.out i o hi ho))
  have c17 := HK.out W3 HB3.out b 17 hb (by omega)
  have c0 := HK.out W3 HB3.out b 0 hb (by omega)
  rw [show buKind 17 = .i64 from rfl] at c17
  rw [show buKind 0 = .i64 from rfl, Nat.add_zero] at c0
  clear HO1 HS1 HPO HBW0 HI
  have n1 : (bs b 17 == 3) = false := by simpa using h1
  clear h1
  generalize bs b 17 = st at *
  have HEND := Lib.hid (SlB.below HS.out HB3.out)
  go_wp2_with fail
  go_ret3
  exact ⟨_, _, rfl, HEND.out, fun g hg => .inl hg, World.ownsRow_nil _ _ _ _, HB3.out⟩

set_option maxRecDepth 100000 in
set_option maxHeartbeats 4000000 in
theorem RT_regen_no (h : SlB w v n bs) (hups : Ups n bs) (hn : n ≤ 32) (b : Nat) (hb : b < n) (home : Int) (h1 : bs b 17 ≠ 4) : Calls Try.prog 34 #[v, .int .i64 5, .int .i64 b, .int .i64 home] w (RTurnTo w v n (5, [], bs)) := by
  have HI := Lib.hid (RIs_any h b)
  rw [show isB n (b : Int) = true by unfold isB; exact decide_eq_true ⟨by omega, by omega⟩] at HI
  have hbI : (b : Int) < n := by omega
  have hup := hups b hb
  have HU := Lib.hid hups
  have HS := Lib.hid h
  have HBW0 := Lib.hid ((Below.refl w.heap.size w).alloc (Nat.le_refl _) (.cells #[] 35))
  have HO1 := Lib.hid (show (w.alloc (.cells #[] 35)).ownsRow w.heap.size 35 19 (.slice (some ⟨w.heap.size, 0, none⟩) 0 0) 0 [] from World.ownsRow_made w #[] 0 (Nat.le_refl _) (by decide) rfl)
  have HS1 := Lib.hid ((h.below HBW0.out).src)
  have HPO := Lib.hid (flat_one bs n)
  obtain ⟨i35, I35, Z35, S35, B35⟩ := info_parts Try.info35
  have I35 := Lib.hid I35
  have Z35 := Lib.hid Z35
  have S35 := Lib.hid S35
  have B35 := Lib.hid B35
  obtain ⟨a, cap, rfl, hg⟩ := h
  obtain ⟨g, rfl, hx⟩ := hg (by omega)
  have HX := Lib.hid hx
  have HGL := Lib.hid (show g < w.heap.size from World.block_lt_of_cell? _ _ (hx b 0 hb (by omega)))
  clear hx hg hups
  go_enter Try.func34, Try.ntmps34
  go_wp2_with fail
  refine HI.out.mono ?_
  rintro r w' ⟨rfl, rfl⟩
  go_upto_region 4 with (first | (refine wpList_build0 rfl rfl ?_) | (at_builtin; refine wpList_append_srcN rfl _ _ 43 rfl w.heap.size 35 i35 _ 19 152 Try.underlying43 I35.out Z35.out S35.out B35.out (buArr_size bk0) (by omega) rfl HO1.out rfl HS1.out HPO.out (by simp only [maxLen]; omega) (by omega) HBW0.out.size ?_; intro v1 W3 hown1 hgrow1 _; have HB3 := Lib.hid (HBW0.out.grown hgrow1 HBW0.out.size (fun j hj => (HO1.out.lt j hj).1)); rw [Nat.zero_add, List.nil_append] at hown1; have HO3 := Lib.hid hown1; clear hown1 hgrow1))
  obtain ⟨G, gcap, hv1⟩ : ∃ G gcap, v1 = .slice (some ⟨G, 0, none⟩) n gcap := by
    obtain ⟨n', rfl⟩ : ∃ n', n = n' + 1 := ⟨n - 1, by omega⟩
    exact ownsRow_succ HO3.out
  subst hv1
  have hGb := (HO3.out.lt G rfl).1
  have HK := Lib.hid (fun (w' : World) (hb' : Below w.heap.size w w') (i o : Nat) (hi : i < n) (ho : o < 19) => show w'.cell? ⟨g, i * 19 + o, none⟩ = some (.int (buKind o) (bs i o)) from (hb'.cell (p := ⟨g, i * 19 + o, none⟩) HGL.out).trans (HX.out i o hi ho))
  have c17 := HK.out W3 HB3.out b 17 hb (by omega)
  have c0 := HK.out W3 HB3.out b 0 hb (by omega)
  rw [show buKind 17 = .i64 from rfl] at c17
  rw [show buKind 0 = .i64 from rfl, Nat.add_zero] at c0
  clear HO1 HS1 HPO HBW0 HI
  have n1 : (bs b 17 == 4) = false := by simpa using h1
  clear h1
  generalize bs b 17 = st at *
  have HEND := Lib.hid (SlB.below HS.out HB3.out)
  go_wp2_with fail
  go_ret3
  exact ⟨_, _, rfl, HEND.out, fun g hg => .inl hg, World.ownsRow_nil _ _ _ _, HB3.out⟩

set_option maxRecDepth 100000 in
set_option maxHeartbeats 4000000 in
theorem RT_burst (h : SlB w v n bs) (hups : Ups n bs) (hn : n ≤ 32) (b : Nat) (hb : b < n) (home : Int) (h1 : bs b 17 = 3) : Calls Try.prog 34 #[v, .int .i64 4, .int .i64 b, .int .i64 home] w (RTurnTo w v n (0, b :: ownL (ownB bs b) n, bsK (ownB bs b) (trB (bs b 18)) (updT bs b (setO (bs b) 17 4)) n)) := by
  have HI := Lib.hid (RIs_any h b)
  rw [show isB n (b : Int) = true by unfold isB; exact decide_eq_true ⟨by omega, by omega⟩] at HI
  have hbI : (b : Int) < n := by omega
  have hup := hups b hb
  have HU := Lib.hid hups
  have HS := Lib.hid h
  have HBW0 := Lib.hid ((Below.refl w.heap.size w).alloc (Nat.le_refl _) (.cells #[] 35))
  have HO1 := Lib.hid (show (w.alloc (.cells #[] 35)).ownsRow w.heap.size 35 19 (.slice (some ⟨w.heap.size, 0, none⟩) 0 0) 0 [] from World.ownsRow_made w #[] 0 (Nat.le_refl _) (by decide) rfl)
  have HS1 := Lib.hid ((h.below HBW0.out).src)
  have HPO := Lib.hid (flat_one bs n)
  obtain ⟨i35, I35, Z35, S35, B35⟩ := info_parts Try.info35
  have I35 := Lib.hid I35
  have Z35 := Lib.hid Z35
  have S35 := Lib.hid S35
  have B35 := Lib.hid B35
  obtain ⟨a, cap, rfl, hg⟩ := h
  obtain ⟨g, rfl, hx⟩ := hg (by omega)
  have HX := Lib.hid hx
  have HGL := Lib.hid (show g < w.heap.size from World.block_lt_of_cell? _ _ (hx b 0 hb (by omega)))
  clear hx hg hups
  go_enter Try.func34, Try.ntmps34
  go_wp2_with fail
  refine HI.out.mono ?_
  rintro r w' ⟨rfl, rfl⟩
  go_upto_region 4 with (first | (refine wpList_build0 rfl rfl ?_) | (at_builtin; refine wpList_append_srcN rfl _ _ 43 rfl w.heap.size 35 i35 _ 19 152 Try.underlying43 I35.out Z35.out S35.out B35.out (buArr_size bk0) (by omega) rfl HO1.out rfl HS1.out HPO.out (by simp only [maxLen]; omega) (by omega) HBW0.out.size ?_; intro v1 W3 hown1 hgrow1 _; have HB3 := Lib.hid (HBW0.out.grown hgrow1 HBW0.out.size (fun j hj => (HO1.out.lt j hj).1)); rw [Nat.zero_add, List.nil_append] at hown1; have HO3 := Lib.hid hown1; clear hown1 hgrow1))
  obtain ⟨G, gcap, hv1⟩ : ∃ G gcap, v1 = .slice (some ⟨G, 0, none⟩) n gcap := by
    obtain ⟨n', rfl⟩ : ∃ n', n = n' + 1 := ⟨n - 1, by omega⟩
    exact ownsRow_succ HO3.out
  subst hv1
  have hGb := (HO3.out.lt G rfl).1
  have HK := Lib.hid (fun (w' : World) (hb' : Below w.heap.size w w') (i o : Nat) (hi : i < n) (ho : o < 19) => show w'.cell? ⟨g, i * 19 + o, none⟩ = some (.int (buKind o) (bs i o)) from (hb'.cell (p := ⟨g, i * 19 + o, none⟩) HGL.out).trans (HX.out i o hi ho))
  have c17 := HK.out W3 HB3.out b 17 hb (by omega)
  have c0 := HK.out W3 HB3.out b 0 hb (by omega)
  rw [show buKind 17 = .i64 from rfl] at c17
  rw [show buKind 0 = .i64 from rfl, Nat.add_zero] at c0
  clear HO1 HS1 HPO HBW0 HI
  rw [h1] at c17
  obtain ⟨home0, hh0⟩ : ∃ home0, bs b 18 = home0 := ⟨_, rfl⟩
  have HH0 := Lib.hid hh0
  obtain ⟨i3, I3, Z3, S3, B3⟩ := info_parts Try.info3i
  have I3 := Lib.hid I3
  have Z3 := Lib.hid Z3
  have S3 := Lib.hid S3
  have B3 := Lib.hid B3
  go_upto_region 11 with fail
  obtain ⟨W4, hW4⟩ : ∃ W4, W3.alloc (.cells #[.int .i64 b] 3) = W4 := ⟨_, rfl⟩
  obtain ⟨T, hT⟩ : ∃ T, W3.heap.size = T := ⟨_, rfl⟩
  have HB4 := Lib.hid (show Below w.heap.size w W4 by rw [← hW4]; exact HB3.out.alloc HB3.out.size _)
  have HO4 := Lib.hid (show W4.ownsRow w.heap.size 35 19 (.slice (some ⟨G, 0, none⟩) n gcap) n (flat bs n) by rw [← hW4]; exact HO3.out.alloc _)
  have HT4 := Lib.hid (show W4.ownsRow w.heap.size 3 1 (.slice (some ⟨T, 0, none⟩) 1 1) 1 (intsL [b]) by rw [← hW4, ← hT]; exact World.ownsRow_lit W3 #[.int .i64 b] 1 HB3.out.size (by decide) rfl)
  have hTG : T ≠ G := by have := (HO3.out.lt G rfl).2; omega
  rw [hW4, hT]
  clear hW4 hT HO3 HB3 c17 c0
  have d17 := own_cell HO4.out hb (o := 17) (by omega)
  have d18 := own_cell HO4.out hb (o := 18) (by omega)
  rw [show buKind 17 = .i64 from rfl] at d17
  rw [show buKind 18 = .i64 from rfl] at d18
  have f17 : W4.frozen? ⟨G, b * 19 + 17, none⟩ = false := HO4.out.frozenAt _
  have f18 : W4.frozen? ⟨G, b * 19 + 18, none⟩ = false := HO4.out.frozenAt _
  go_upto_region 28 with fail
  obtain ⟨bs1, hbs1⟩ : ∃ bs1, updT bs b (setO (bs b) 17 4) = bs1 := ⟨_, rfl⟩
  obtain ⟨W5, hW5⟩ : ∃ W5, W4.setCell ⟨G, b * 19 + 17, none⟩ (.int .i64 4) = W5 := ⟨_, rfl⟩
  have HB5 := Lib.hid (show Below w.heap.size w W5 by rw [← hW5]; exact HB4.out.setCell (p := ⟨G, b * 19 + 17, none⟩) hGb (.int .i64 4))
  have HO5 := Lib.hid (show W5.ownsRow w.heap.size 35 19 (.slice (some ⟨G, 0, none⟩) n gcap) n (flat bs1 n) by rw [← hW5, ← hbs1]; exact own_wcell HO4.out hb (o := 17) (by omega) (k := IntKind.i64) rfl 4)
  have HT5 := Lib.hid (show W5.ownsRow w.heap.size 3 1 (.slice (some ⟨T, 0, none⟩) 1 1) 1 (intsL [b]) by rw [← hW5]; exact own_of_heap HT4.out fun j hj => Below.heap_setCell _ _ _ _ (by cases hj; exact hTG))
  rw [hW5]
  have HBS := Lib.hid hbs1
  clear hW5 HB4 HO4 HT4 d17 d18 f17 f18 hbs1
  have HK5 := Lib.hid (fun (w' : World) (hb' : Below w.heap.size w w') => HK.out w' hb')
  have hGg : G ≠ g := by have := HGL.out; omega
  have hgG : g ≠ G := fun e => hGg e.symm
  clear HK
  go_wp2_with fail
  go_loopw [14, 151] (fun y s wr => ∃ k : Nat, k ≤ n ∧ s = .int .i64 k ∧ RLoop w n G gcap b (ownB bs b) (trB home0) bs1 k y wr) (fun _ s _ => n - (intOf s).toNat)
  case atStart => exact ⟨0, Nat.zero_le _, rfl, by rw [bsK_zero]; exact HO5.out, HT5.out, fun e => hTG (Option.some.inj e), HB5.out⟩
  case round =>
    clear HO5 HT5 HB5
    obtain ⟨k, hk, rfl, hO, hY, hne, hB⟩ := hrel
    have HO := Lib.hid hO
    have HY := Lib.hid hY
    have HNE := Lib.hid hne
    have HB := Lib.hid hB
    have hll := ownL_len (ownB bs b) k
    clear hO hY hne hB
    by_cases hlt : k < n
    · have hltI : (k : Int) < n := by omega
      have e0 := HK5.out wr HB.out k 0 hlt (by omega)
      have e17 := HK5.out wr HB.out k 17 hlt (by omega)
      rw [show buKind 0 = .i64 from rfl, Nat.add_zero] at e0
      rw [show buKind 17 = .i64 from rfl] at e17
      have e18 := HK5.out wr HB.out b 18 hb (by omega)
      rw [show buKind 18 = .i64 from rfl, HH0.out] at e18
      by_cases x0 : bs k 0 = (b : Int)
      · by_cases x1 : bs k 17 = 2
        · have ho : ownB bs b k = true := by simp [ownB, x0, x1]
          rw [x0] at e0
          rw [x1] at e17
          have p17 := own_cell HO.out hlt (o := 17) (by omega)
          have p18 := own_cell HO.out hlt (o := 18) (by omega)
          rw [show buKind 17 = .i64 from rfl] at p17
          rw [show buKind 18 = .i64 from rfl] at p18
          have q17 : wr.frozen? ⟨G, k * 19 + 17, none⟩ = false := HO.out.frozenAt _
          have q18 : wr.frozen? ⟨G, k * 19 + 18, none⟩ = false := HO.out.frozenAt _
          clear x0 x1
          go_upto_region 34 with fail
          clear p17 p18 q17 q18 e0 e17 e18
          obtain ⟨W6, hW6⟩ : ∃ W6, (wr.setCell ⟨G, k * 19 + 17, none⟩ (.int .i64 3)).setCell ⟨G, k * 19 + 18, none⟩ (.int .i64 home0) = W6 := ⟨_, rfl⟩
          have HY6 := Lib.hid (show W6.ownsRow w.heap.size 3 1 u14 (b :: ownL (ownB bs b) k).length (intsL (b :: ownL (ownB bs b) k)) by
            rw [← hW6]
            exact own_of_heap HY.out fun j hj => (Below.heap_setCell _ _ _ _ (by intro e; simp only at e; subst e; exact HNE.out hj)).trans (Below.heap_setCell _ _ _ _ (by intro e; simp only at e; subst e; exact HNE.out hj)))
          have HO6 := Lib.hid (show W6.ownsRow w.heap.size 35 19 (.slice (some ⟨G, 0, none⟩) n gcap) n (flat (bsK (ownB bs b) (trB home0) bs1 (k + 1)) n) by
            rw [← hW6, ← bsK_yes ho]
            exact (by
            have h1 := own_wcell HO.out hlt (o := 17) (by omega) (k := IntKind.i64) rfl 3
            have h2 := own_wcell h1 hlt (o := 18) (by omega) (k := IntKind.i64) rfl home0
            rw [updT_same, updT_two, bsK_at] at h2
            exact h2))
          have HB6 := Lib.hid (show Below w.heap.size w W6 by rw [← hW6]; exact (HB.out.setCell (p := ⟨G, k * 19 + 17, none⟩) hGb (.int .i64 3)).setCell (p := ⟨G, k * 19 + 18, none⟩) hGb (.int .i64 home0))
          rw [hW6]
          have HL := Lib.hid (show (b :: ownL (ownB bs b) k) ++ [k] = b :: ownL (ownB bs b) (k + 1) by rw [ownL_yes ho]; rfl)
          clear hW6 ho HY HO HB
          have hsz : w.heap.size ≤ (W6.alloc (.cells #[.int .i64 k] 3)).heap.size := by have := HB6.out.size; simp; omega
          have hlen : (b :: ownL (ownB bs b) k).length ≤ 40 := by simp only [List.length_cons]; omega
          go_wp2_with (at_builtin; refine wpList_append_srcN rfl _ _ 31 rfl w.heap.size 3 i3 _ 1 8 Try.underlying31 I3.out Z3.out S3.out B3.out rfl (by decide) rfl (HY6.out.alloc _) rfl (src_new1 W6 _ 3) (by simp [Value.oneCell']) (by simp only [maxLen]; omega) (by omega) hsz ?_; intro v' w7 hown' hgrow hblk; rw [intsL_more] at hown'; have HY7 := Lib.hid hown'; have HG7 := Lib.hid hgrow; have HK7 := Lib.hid hblk; clear hown' hgrow hblk)
          have hO7 := (HO6.out.alloc (.cells #[.int .i64 k] 3)).kept HG7.out (.inr (fun e => HNE.out e.symm))
          have hB7 : Below w.heap.size w w7 := (HB6.out.alloc HB6.out.size (.cells #[.int .i64 k] 3)).grown HG7.out hsz (fun j hj => (HY6.out.lt j hj).1)
          have hne7 : v'.ownBlock ≠ some G := fun e => by
            rcases HK7.out with e2 | e2
            · rw [e2] at e; exact HNE.out e
            · rw [e2] at e
              have h1 := Option.some.inj e
              have h2 := (HO6.out.lt G rfl).2
              simp at h1
              omega
          go_roundw
          case rel => exact ⟨k + 1, by omega, by go_num, hO7, by rw [← HL.out, List.length_append]; exact HY7.out, hne7, hB7⟩
          case measure => simp [intOf]; omega
        · have ho : ownB bs b k = false := by simp [ownB, x1]
          have n2 : (bs k 17 == 2) = false := by simpa using x1
          rw [x0] at e0
          clear x0 x1 e18
          have HL := Lib.hid (ownL_no (own := ownB bs b) ho)
          have HKN := Lib.hid (bsK_no (tr := trB home0) (bs := bs1) ho)
          clear ho
          go_wp2_with fail
          go_roundw
          case rel => exact ⟨k + 1, by omega, by go_num, by rw [← HKN.out]; exact HO.out, by rw [HL.out]; exact HY.out, HNE.out, HB.out⟩
          case measure => simp [intOf]; omega
      · have ho : ownB bs b k = false := by simp [ownB, x0]
        have n1 : (bs k 0 == (b : Int)) = false := by simpa using x0
        clear x0 e18 e17
        have HL := Lib.hid (ownL_no (own := ownB bs b) ho)
        have HKN := Lib.hid (bsK_no (tr := trB home0) (bs := bs1) ho)
        clear ho
        go_wp2_with fail
        go_roundw
        case rel => exact ⟨k + 1, by omega, by go_num, by rw [← HKN.out]; exact HO.out, by rw [HL.out]; exact HY.out, HNE.out, HB.out⟩
        case measure => simp [intOf]; omega
    · obtain rfl : k = n := by omega
      clear hlt
      go_wp2_with fail
      have HSF := SlB.own HO.out
      rw [← HBS.out, ← HH0.out] at HSF
      have HSFF := Lib.hid HSF
      clear HSF
      go_ret3
      exact ⟨_, _, rfl, HSFF.out, fun g' hg' => .inr (HO.out.lt g' hg').1, HY.out, HB.out⟩
end
end Go.Proofs.Ytmbdhpibkhgkcaa
