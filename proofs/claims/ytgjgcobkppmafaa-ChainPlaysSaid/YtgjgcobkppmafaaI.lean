/- Contracts of the document's rows (package pinfoldref07): Push. No condition. -/
import Derived.Test.YtgjgcobkppmafaaH
import Derived.Outline
namespace Go.Proofs.Ytgjgcobkppmafaa
open Go.RowKit Go.Deep

set_option maxRecDepth 100000 in
set_option maxHeartbeats 1000000 in
theorem RPush_yes {w : World} {rx bl cap n1 N M : Nat} {V : Nat → Value} {R : Nat → List Nat} (h : IsRx w rx bl cap n1 V N M R) {i n : Nat} (hi : i < M) (hn : n < N) (hN : N ≤ 100000)
    (hno : inRef R n 0 M = (-1, -1)) (hsm : (R i).length < 4096) :
    Calls Try.prog 27 #[.pointer (some ⟨rx, 0, none⟩), .int .i64 i, .int .i64 n] w
      fun r w' => r = .returned (.int .i64 0) ∧ (∃ V', IsRx w' rx bl cap n1 V' N M (updL R i (R i ++ [n]))) ∧ Frm (fun k => k = bl) w w' := by
  have hc0 := h.c0
  have hc1 := h.c1
  have hcap := h.cap
  have hca := h.ca hi
  have HI := Lib.hid (RIn_any h n)
  rw [hno] at HI
  have H := Lib.hid h
  have hsrc0 := Src.own (h.rows i hi)
  have hlow := h.low
  have hlt := h.top.lt
  clear h hno
  obtain ⟨v, hv⟩ : ∃ v, V i = v := ⟨_, rfl⟩
  obtain ⟨L, hL⟩ : ∃ L, R i = L := ⟨_, rfl⟩
  rw [hv, hL] at hsrc0
  rw [hv] at hca
  rw [hL] at hsm ⊢
  have HV := Lib.hid hv
  clear hv hL
  have KS := Lib.hid (fun (w' : World) (hb : Below w.heap.size w w') => show Below w.heap.size w w' ∧ w'.cell? ⟨rx, 1, none⟩ = some (.slice (some ⟨bl, 0, none⟩) M cap) ∧ w'.cell? ⟨bl, i, none⟩ = some v from
    ⟨hb, (hb.cell (p := ⟨rx, 1, none⟩) hlt).trans hc1, (hb.cell (p := ⟨bl, i, none⟩) (by have := World.block_lt_of_cell? _ _ hca; exact this)).trans hca⟩)
  have HS := Lib.hid (fun (w' : World) (hb : Below w.heap.size w w') => show Src w' v L.length (ints L) by
    obtain ⟨A, c, h1, h2, h3⟩ := hsrc0
    refine ⟨A, c, h1, h2, ?_⟩
    rcases h3 with h3 | ⟨ad, h3, h4⟩
    · exact .inl h3
    · refine .inr ⟨ad, h3, fun j u hu => ?_⟩
      have h5 := h4 j u hu
      exact (hb.cell (World.block_lt_of_cell? _ _ h5)).trans h5)
  clear hsrc0
  obtain ⟨i3, hi3, hz3, hs3, hb3⟩ := info_parts Try.info3q
  have I3 := Lib.hid hi3
  have Z3 := Lib.hid hz3
  have S3 := Lib.hid hs3
  have B3 := Lib.hid hb3
  clear hi3 hz3 hs3 hb3
  go_enter Try.func27, Try.ntmps27
  go_wp2_with fail
  refine HI.out.mono ?_
  rintro r w' ⟨rfl, rfl⟩
  go_wp2_with fail
  refine wp_region_cut_held (fun w' => Below w.heap.size w w' ∧ w'.cell? ⟨rx, 1, none⟩ = some (.slice (some ⟨bl, 0, none⟩) M cap) ∧ w'.cell? ⟨bl, i, none⟩ = some v) 17 (by kernel_rfl) (by kernel_rfl) (KS.out _ (Below.refl _ _).drew) (fun hHeld => ?_)
  simp only [List.take_succ_cons, List.take_zero]
  refine wpAnyH_take (i := 0) (v := ?va0) rfl (by kernel_rfl) (by kernel_rfl) (by kernel_rfl) (fun _ _ _ h => h) (Or.inl ⟨by rfl, ?hya0⟩) (by assumption) ?resta0
  case hya0 => (intro w hSw; (try dsimp only at hSw); go_simp) <;> with_reducible rfl
  simp only [Act.put, List.getElem_toArray, List.getElem_cons_succ, List.getElem_cons_zero, List.setIfInBounds_toArray, List.set_cons_succ, List.set_cons_zero]
  refine wpAnyH_take (i := 1) (v := ?va1) rfl (by kernel_rfl) (by kernel_rfl) (by kernel_rfl) (fun _ _ _ h => h) (Or.inl ⟨by rfl, ?hya1⟩) (by assumption) ?resta1
  case hya1 => (intro w hSw; (try dsimp only at hSw); go_simp) <;> with_reducible rfl
  simp only [Act.put, List.getElem_toArray, List.getElem_cons_succ, List.getElem_cons_zero, List.setIfInBounds_toArray, List.set_cons_succ, List.set_cons_zero]
  refine wpAnyH_take (i := 2) (v := ?va2) rfl (by kernel_rfl) (by kernel_rfl) (by kernel_rfl) (fun _ _ _ h => h) (Or.inl ⟨by rfl, ?hya2⟩) (by assumption) ?resta2
  case hya2 => (intro w hSw; (try dsimp only at hSw); go_simp) <;> with_reducible rfl
  simp only [Act.put, List.getElem_toArray, List.getElem_cons_succ, List.getElem_cons_zero, List.setIfInBounds_toArray, List.set_cons_succ, List.set_cons_zero]
  refine wpAnyH_take (i := 3) (v := ?va3) rfl (by kernel_rfl) (by kernel_rfl) (by kernel_rfl) (fun _ _ _ h => h) (Or.inl ⟨by rfl, ?hya3⟩) (by assumption) ?resta3
  case hya3 => (intro w hSw; (try dsimp only at hSw); go_simp) <;> with_reducible rfl
  simp only [Act.put, List.getElem_toArray, List.getElem_cons_succ, List.getElem_cons_zero, List.setIfInBounds_toArray, List.set_cons_succ, List.set_cons_zero]
  refine wpAnyH_take (i := 4) (v := ?va4) rfl (by kernel_rfl) (by kernel_rfl) (by kernel_rfl) (fun _ _ _ h => h) (Or.inl ⟨by rfl, ?hya4⟩) (by assumption) ?resta4
  case hya4 => (intro w hSw; (try dsimp only at hSw); go_simp) <;> with_reducible rfl
  simp only [Act.put, List.getElem_toArray, List.getElem_cons_succ, List.getElem_cons_zero, List.setIfInBounds_toArray, List.set_cons_succ, List.set_cons_zero]
  refine wpAnyH_take (i := 6) (v := ?va6) rfl (by kernel_rfl) (by kernel_rfl) (by kernel_rfl) (fun _ _ _ h => h) (Or.inl ⟨by rfl, ?hya6⟩) (by assumption) ?resta6
  case hya6 => (intro w hSw; (try dsimp only at hSw); go_simp) <;> with_reducible rfl
  simp only [Act.put, List.getElem_toArray, List.getElem_cons_succ, List.getElem_cons_zero, List.setIfInBounds_toArray, List.set_cons_succ, List.set_cons_zero]
  refine wpAnyH_take (i := 7) (v := ?va7) rfl (by kernel_rfl) (by kernel_rfl) (by kernel_rfl) (fun _ _ _ h => h) (Or.inl ⟨by rfl, ?hya7⟩) (by assumption) ?resta7
  case hya7 => (intro w hSw; (try dsimp only at hSw); go_simp) <;> with_reducible rfl
  simp only [Act.put, List.getElem_toArray, List.getElem_cons_succ, List.getElem_cons_zero, List.setIfInBounds_toArray, List.set_cons_succ, List.set_cons_zero]
  refine wpAnyH_take (i := 8) (v := ?va8) rfl (by kernel_rfl) (by kernel_rfl) (by kernel_rfl) (fun _ _ _ h => h) (Or.inl ⟨by rfl, ?hya8⟩) (by assumption) ?resta8
  case hya8 => (intro w hSw; (try dsimp only at hSw); go_simp) <;> with_reducible rfl
  simp only [Act.put, List.getElem_toArray, List.getElem_cons_succ, List.getElem_cons_zero, List.setIfInBounds_toArray, List.set_cons_succ, List.set_cons_zero]
  refine wpAnyH_take (i := 9) (v := ?va9) rfl (by kernel_rfl) (by kernel_rfl) (by kernel_rfl) (fun _ _ _ h => h) (Or.inl ⟨by rfl, ?hya9⟩) (by assumption) ?resta9
  case hya9 => (intro w hSw; (try dsimp only at hSw); go_simp) <;> with_reducible rfl
  simp only [Act.put, List.getElem_toArray, List.getElem_cons_succ, List.getElem_cons_zero, List.setIfInBounds_toArray, List.set_cons_succ, List.set_cons_zero]
  refine wpAnyH_take (i := 10) (v := ?va10) rfl (by kernel_rfl) (by kernel_rfl) (by kernel_rfl) (fun _ _ _ h => h) (Or.inl ⟨by rfl, ?hya10⟩) (by assumption) ?resta10
  case hya10 => (intro w hSw; (try dsimp only at hSw); go_simp) <;> with_reducible rfl
  simp only [Act.put, List.getElem_toArray, List.getElem_cons_succ, List.getElem_cons_zero, List.setIfInBounds_toArray, List.set_cons_succ, List.set_cons_zero]
  refine wpAnyH_take (i := 11) (v := ?va11) rfl (by kernel_rfl) (by kernel_rfl) (by kernel_rfl) (fun _ _ _ h => h) (Or.inl ⟨by rfl, ?hya11⟩) (by assumption) ?resta11
  case hya11 => (intro w hSw; (try dsimp only at hSw); go_simp) <;> with_reducible rfl
  simp only [Act.put, List.getElem_toArray, List.getElem_cons_succ, List.getElem_cons_zero, List.setIfInBounds_toArray, List.set_cons_succ, List.set_cons_zero]
  refine wpAnyH_take (i := 12) (v := ?va12) rfl (by kernel_rfl) (by kernel_rfl) (by kernel_rfl) (fun _ _ _ h => h) (Or.inl ⟨by rfl, ?hya12⟩) (by assumption) ?resta12
  case hya12 => (intro w hSw; (try dsimp only at hSw); go_simp) <;> with_reducible rfl
  simp only [Act.put, List.getElem_toArray, List.getElem_cons_succ, List.getElem_cons_zero, List.setIfInBounds_toArray, List.set_cons_succ, List.set_cons_zero]
  refine wpAnyH_take (i := 14) (v := ?va14) rfl (by kernel_rfl) (by kernel_rfl) (by kernel_rfl) (fun _ _ _ h => h) (Or.inl ⟨by rfl, ?hya14⟩) (by assumption) ?resta14
  case hya14 => (intro w hSw; (try dsimp only at hSw); go_simp) <;> with_reducible rfl
  simp only [Act.put, List.getElem_toArray, List.getElem_cons_succ, List.getElem_cons_zero, List.setIfInBounds_toArray, List.set_cons_succ, List.set_cons_zero]
  have HB0 := Lib.hid ((Below.refl w.heap.size w).drew)
  refine wpAnyH_ready (rs := [5, 15]) (by kernel_rfl) (by simp) ?_
  refine AllReadyH.cons rfl (fun K hK => ?_) ?_
  · go_simp
    obtain ⟨W1, hW1⟩ : ∃ W, (w.alloc (.cells #[] 3)).drew = W := ⟨_, rfl⟩
    have HBW1 := Lib.hid (show Below w.heap.size w W1 by rw [← hW1]; exact HB0.out.alloc HB0.out.size _)
    have HO1 := Lib.hid (show W1.ownsRow w.heap.size 3 1 (.slice (some ⟨w.heap.size, 0, none⟩) 0 0) 0 [] by rw [← hW1]; exact World.ownsRow_made w.drew #[] 0 HB0.out.size (by decide) rfl)
    rw [hW1]
    clear hW1
    refine hK.out _ _ (KS.out _ HBW1.out) (fun hHeld => ?_)
    clear hK K
    try simp only [Act.put, List.getElem_toArray, List.getElem_cons_succ, List.getElem_cons_zero, List.setIfInBounds_toArray, List.set_cons_succ, List.set_cons_zero]
    refine wpAnyH_ready (rs := [13, 15]) (by kernel_rfl) (by simp) ?_
    refine AllReadyH.cons rfl (fun K hK => ?_) ?_
    · refine step_append_src (by rfl) _ _ 61 (by rfl) w.heap.size 3 i3 _ 8 Try.underlying61 I3.out Z3.out S3.out B3.out rfl (by rfl) HO1.out (by rfl) (HS.out _ HBW1.out) (ints_one L) (by simp only [maxLen]; omega) (by omega) HBW1.out.size ?_
      intro v2 W2 hown2 hgrow2 hblk2
      have HBW2 := Lib.hid (HBW1.out.grown hgrow2 HBW1.out.size (fun k hk => (HO1.out.lt k hk).1))
      have HO2 := Lib.hid hown2
      clear hown2 hgrow2 hblk2
      refine hK.out _ _ (KS.out _ HBW2.out) (fun hHeld => ?_)
      clear hK K
      try simp only [Act.put, List.getElem_toArray, List.getElem_cons_succ, List.getElem_cons_zero, List.setIfInBounds_toArray, List.set_cons_succ, List.set_cons_zero]
      refine wpAnyH_ready (rs := [15]) (by kernel_rfl) (by simp) ?_
      refine AllReadyH.cons rfl (fun K hK => ?_) AllReadyH.nil
      go_simp
      obtain ⟨W3, hW3⟩ : ∃ W, W2.alloc (.cells #[.int .i64 n] 3) = W := ⟨_, rfl⟩
      have HBW3 := Lib.hid (show Below w.heap.size w W3 by rw [← hW3]; exact HBW2.out.alloc HBW2.out.size _)
      have HO3 := Lib.hid (show W3.ownsRow w.heap.size 3 1 (.slice (some ⟨W2.heap.size, 0, none⟩) 1 1) 1 [.int .i64 n] by rw [← hW3]; exact World.ownsRow_lit W2 #[.int .i64 n] 1 HBW2.out.size (by decide) rfl)
      have HO2x3 := HO2.out.alloc (.cells #[.int .i64 n] 3)
      rw [hW3] at HO2x3
      replace HO2x3 := Lib.hid HO2x3
      rw [hW3]
      clear hW3
      refine hK.out _ _ (KS.out _ HBW3.out) (fun hHeld => ?_)
      clear hK K
      try simp only [Act.put, List.getElem_toArray, List.getElem_cons_succ, List.getElem_cons_zero, List.setIfInBounds_toArray, List.set_cons_succ, List.set_cons_zero]
      refine wpAnyH_ready (rs := [16]) (by kernel_rfl) (by simp) ?_
      refine AllReadyH.cons rfl (fun K hK => ?_) AllReadyH.nil
      refine step_append_src (by rfl) _ _ 61 (by rfl) w.heap.size 3 i3 _ 8 Try.underlying61 I3.out Z3.out S3.out B3.out rfl (by rfl) HO2x3.out (by rfl) (Src.own HO3.out) (by simp [Value.oneCell']) (by simp only [maxLen]; omega) (by omega) HBW3.out.size ?_
      intro v4 W4 hown4 hgrow4 hblk4
      have HBW4 := Lib.hid (HBW3.out.grown hgrow4 HBW3.out.size (fun k hk => (HO2x3.out.lt k hk).1))
      have HO4 := Lib.hid hown4
      clear hown4 hgrow4 hblk4
      refine hK.out _ _ (KS.out _ HBW4.out) (fun hHeld => ?_)
      clear hK K
      try simp only [Act.put, List.getElem_toArray, List.getElem_cons_succ, List.getElem_cons_zero, List.setIfInBounds_toArray, List.set_cons_succ, List.set_cons_zero]
      have HF := Lib.hid HO4.out
      have hf0 := HF.out
      rw [Nat.zero_add, List.nil_append] at hf0
      have HF := Lib.hid hf0
      clear hf0
      have HX := Lib.hid HBW4.out
      refine wpAnyH_done (by kernel_rfl) ?_ _
      simp only [headPost, List.drop_succ_cons, List.drop_zero]
      have cR := (KS.out _ HX.out).2.1
      have cB := (KS.out _ HX.out).2.2
      have fB : W4.frozen? ⟨bl, i, none⟩ = false := (World.frozen?_of_block (a := ⟨bl, i, none⟩) (HX.out.block bl H.out.arr.lt)).trans (H.out.arr.frozen i)
      obtain ⟨gF, capF, hvF⟩ := ownsRow_succ HF.out
      subst hvF
      go_wp2_with fail
      go_ret
      refine ⟨rfl, ⟨_, H.out.set HX.out hi (l := L ++ [n]) ?_ (by simp; omega)⟩, ?_⟩
      · rw [ints_append, List.length_append]
        exact own_low HF.out hlow.2.2.2
      · exact ((Frm.of_below (S := fun k => k = bl) HX.out).setCell (p := ⟨bl, i, none⟩) (fun _ => rfl) _)
    refine AllReadyH.cons rfl (fun K hK => ?_) AllReadyH.nil
    go_simp
    obtain ⟨W5, hW5⟩ : ∃ W, W1.alloc (.cells #[.int .i64 n] 3) = W := ⟨_, rfl⟩
    have HBW5 := Lib.hid (show Below w.heap.size w W5 by rw [← hW5]; exact HBW1.out.alloc HBW1.out.size _)
    have HO5 := Lib.hid (show W5.ownsRow w.heap.size 3 1 (.slice (some ⟨W1.heap.size, 0, none⟩) 1 1) 1 [.int .i64 n] by rw [← hW5]; exact World.ownsRow_lit W1 #[.int .i64 n] 1 HBW1.out.size (by decide) rfl)
    have HO1x5 := HO1.out.alloc (.cells #[.int .i64 n] 3)
    rw [hW5] at HO1x5
    replace HO1x5 := Lib.hid HO1x5
    rw [hW5]
    clear hW5
    refine hK.out _ _ (KS.out _ HBW5.out) (fun hHeld => ?_)
    clear hK K
    try simp only [Act.put, List.getElem_toArray, List.getElem_cons_succ, List.getElem_cons_zero, List.setIfInBounds_toArray, List.set_cons_succ, List.set_cons_zero]
    refine wpAnyH_ready (rs := [13]) (by kernel_rfl) (by simp) ?_
    refine AllReadyH.cons rfl (fun K hK => ?_) AllReadyH.nil
    refine step_append_src (by rfl) _ _ 61 (by rfl) w.heap.size 3 i3 _ 8 Try.underlying61 I3.out Z3.out S3.out B3.out rfl (by rfl) HO1x5.out (by rfl) (HS.out _ HBW5.out) (ints_one L) (by simp only [maxLen]; omega) (by omega) HBW5.out.size ?_
    intro v6 W6 hown6 hgrow6 hblk6
    have HBW6 := Lib.hid (HBW5.out.grown hgrow6 HBW5.out.size (fun k hk => (HO1x5.out.lt k hk).1))
    have HO6 := Lib.hid hown6
    have HO5y6 := Lib.hid (HO5.out.kept hgrow6 (.inr (by have := (HO1.out.lt _ rfl).2; simp [Value.ownBlock] at this ⊢; omega)))
    clear hown6 hgrow6 hblk6
    refine hK.out _ _ (KS.out _ HBW6.out) (fun hHeld => ?_)
    clear hK K
    try simp only [Act.put, List.getElem_toArray, List.getElem_cons_succ, List.getElem_cons_zero, List.setIfInBounds_toArray, List.set_cons_succ, List.set_cons_zero]
    refine wpAnyH_ready (rs := [16]) (by kernel_rfl) (by simp) ?_
    refine AllReadyH.cons rfl (fun K hK => ?_) AllReadyH.nil
    refine step_append_src (by rfl) _ _ 61 (by rfl) w.heap.size 3 i3 _ 8 Try.underlying61 I3.out Z3.out S3.out B3.out rfl (by rfl) HO6.out (by rfl) (Src.own HO5y6.out) (by simp [Value.oneCell']) (by simp only [maxLen]; omega) (by omega) HBW6.out.size ?_
    intro v7 W7 hown7 hgrow7 hblk7
    have HBW7 := Lib.hid (HBW6.out.grown hgrow7 HBW6.out.size (fun k hk => (HO6.out.lt k hk).1))
    have HO7 := Lib.hid hown7
    clear hown7 hgrow7 hblk7
    refine hK.out _ _ (KS.out _ HBW7.out) (fun hHeld => ?_)
    clear hK K
    try simp only [Act.put, List.getElem_toArray, List.getElem_cons_succ, List.getElem_cons_zero, List.setIfInBounds_toArray, List.set_cons_succ, List.set_cons_zero]
    have HF := Lib.hid HO7.out
    have hf0 := HF.out
    rw [Nat.zero_add, List.nil_append] at hf0
    have HF := Lib.hid hf0
    clear hf0
    have HX := Lib.hid HBW7.out
    refine wpAnyH_done (by kernel_rfl) ?_ _
    simp only [headPost, List.drop_succ_cons, List.drop_zero]
    have cR := (KS.out _ HX.out).2.1
    have cB := (KS.out _ HX.out).2.2
    have fB : W7.frozen? ⟨bl, i, none⟩ = false := (World.frozen?_of_block (a := ⟨bl, i, none⟩) (HX.out.block bl H.out.arr.lt)).trans (H.out.arr.frozen i)
    obtain ⟨gF, capF, hvF⟩ := ownsRow_succ HF.out
    subst hvF
    go_wp2_with fail
    go_ret
    refine ⟨rfl, ⟨_, H.out.set HX.out hi (l := L ++ [n]) ?_ (by simp; omega)⟩, ?_⟩
    · rw [ints_append, List.length_append]
      exact own_low HF.out hlow.2.2.2
    · exact ((Frm.of_below (S := fun k => k = bl) HX.out).setCell (p := ⟨bl, i, none⟩) (fun _ => rfl) _)
  refine AllReadyH.cons rfl (fun K hK => ?_) AllReadyH.nil
  go_simp
  obtain ⟨W8, hW8⟩ : ∃ W, (w.alloc (.cells #[.int .i64 n] 3)).drew = W := ⟨_, rfl⟩
  have HBW8 := Lib.hid (show Below w.heap.size w W8 by rw [← hW8]; exact HB0.out.alloc HB0.out.size _)
  have HO8 := Lib.hid (show W8.ownsRow w.heap.size 3 1 (.slice (some ⟨w.heap.size, 0, none⟩) 1 1) 1 [.int .i64 n] by rw [← hW8]; exact World.ownsRow_lit w.drew #[.int .i64 n] 1 HB0.out.size (by decide) rfl)
  rw [hW8]
  clear hW8
  refine hK.out _ _ (KS.out _ HBW8.out) (fun hHeld => ?_)
  clear hK K
  try simp only [Act.put, List.getElem_toArray, List.getElem_cons_succ, List.getElem_cons_zero, List.setIfInBounds_toArray, List.set_cons_succ, List.set_cons_zero]
  refine wpAnyH_ready (rs := [5]) (by kernel_rfl) (by simp) ?_
  refine AllReadyH.cons rfl (fun K hK => ?_) AllReadyH.nil
  go_simp
  obtain ⟨W9, hW9⟩ : ∃ W, W8.alloc (.cells #[] 3) = W := ⟨_, rfl⟩
  have HBW9 := Lib.hid (show Below w.heap.size w W9 by rw [← hW9]; exact HBW8.out.alloc HBW8.out.size _)
  have HO9 := Lib.hid (show W9.ownsRow w.heap.size 3 1 (.slice (some ⟨W8.heap.size, 0, none⟩) 0 0) 0 [] by rw [← hW9]; exact World.ownsRow_made W8 #[] 0 HBW8.out.size (by decide) rfl)
  have HO8x9 := HO8.out.alloc (.cells #[] 3)
  rw [hW9] at HO8x9
  replace HO8x9 := Lib.hid HO8x9
  rw [hW9]
  clear hW9
  refine hK.out _ _ (KS.out _ HBW9.out) (fun hHeld => ?_)
  clear hK K
  try simp only [Act.put, List.getElem_toArray, List.getElem_cons_succ, List.getElem_cons_zero, List.setIfInBounds_toArray, List.set_cons_succ, List.set_cons_zero]
  refine wpAnyH_ready (rs := [13]) (by kernel_rfl) (by simp) ?_
  refine AllReadyH.cons rfl (fun K hK => ?_) AllReadyH.nil
  refine step_append_src (by rfl) _ _ 61 (by rfl) w.heap.size 3 i3 _ 8 Try.underlying61 I3.out Z3.out S3.out B3.out rfl (by rfl) HO9.out (by rfl) (HS.out _ HBW9.out) (ints_one L) (by simp only [maxLen]; omega) (by omega) HBW9.out.size ?_
  intro v10 W10 hown10 hgrow10 hblk10
  have HBW10 := Lib.hid (HBW9.out.grown hgrow10 HBW9.out.size (fun k hk => (HO9.out.lt k hk).1))
  have HO10 := Lib.hid hown10
  have HO8x9y10 := Lib.hid (HO8x9.out.kept hgrow10 (.inr (by have := (HO8.out.lt _ rfl).2; simp [Value.ownBlock] at this ⊢; omega)))
  clear hown10 hgrow10 hblk10
  refine hK.out _ _ (KS.out _ HBW10.out) (fun hHeld => ?_)
  clear hK K
  try simp only [Act.put, List.getElem_toArray, List.getElem_cons_succ, List.getElem_cons_zero, List.setIfInBounds_toArray, List.set_cons_succ, List.set_cons_zero]
  refine wpAnyH_ready (rs := [16]) (by kernel_rfl) (by simp) ?_
  refine AllReadyH.cons rfl (fun K hK => ?_) AllReadyH.nil
  refine step_append_src (by rfl) _ _ 61 (by rfl) w.heap.size 3 i3 _ 8 Try.underlying61 I3.out Z3.out S3.out B3.out rfl (by rfl) HO10.out (by rfl) (Src.own HO8x9y10.out) (by simp [Value.oneCell']) (by simp only [maxLen]; omega) (by omega) HBW10.out.size ?_
  intro v11 W11 hown11 hgrow11 hblk11
  have HBW11 := Lib.hid (HBW10.out.grown hgrow11 HBW10.out.size (fun k hk => (HO10.out.lt k hk).1))
  have HO11 := Lib.hid hown11
  clear hown11 hgrow11 hblk11
  refine hK.out _ _ (KS.out _ HBW11.out) (fun hHeld => ?_)
  clear hK K
  try simp only [Act.put, List.getElem_toArray, List.getElem_cons_succ, List.getElem_cons_zero, List.setIfInBounds_toArray, List.set_cons_succ, List.set_cons_zero]
  have HF := Lib.hid HO11.out
  have hf0 := HF.out
  rw [Nat.zero_add, List.nil_append] at hf0
  have HF := Lib.hid hf0
  clear hf0
  have HX := Lib.hid HBW11.out
  refine wpAnyH_done (by kernel_rfl) ?_ _
  simp only [headPost, List.drop_succ_cons, List.drop_zero]
  have cR := (KS.out _ HX.out).2.1
  have cB := (KS.out _ HX.out).2.2
  have fB : W11.frozen? ⟨bl, i, none⟩ = false := (World.frozen?_of_block (a := ⟨bl, i, none⟩) (HX.out.block bl H.out.arr.lt)).trans (H.out.arr.frozen i)
  obtain ⟨gF, capF, hvF⟩ := ownsRow_succ HF.out
  subst hvF
  go_wp2_with fail
  go_ret
  refine ⟨rfl, ⟨_, H.out.set HX.out hi (l := L ++ [n]) ?_ (by simp; omega)⟩, ?_⟩
  · rw [ints_append, List.length_append]
    exact own_low HF.out hlow.2.2.2
  · exact ((Frm.of_below (S := fun k => k = bl) HX.out).setCell (p := ⟨bl, i, none⟩) (fun _ => rfl) _)

section
variable {w : World} {rx bl cap n1 N M : Nat} {V : Nat → Value} {R : Nat → List Nat}

theorem RPush_arg (h : IsRx w rx bl cap n1 V N M R) {i n : Int} (hin : ¬ (0 ≤ i ∧ i < M) ∨ ¬ (0 ≤ n ∧ n < N)) :
    Calls Try.prog 27 #[.pointer (some ⟨rx, 0, none⟩), .int .i64 i, .int .i64 n] w fun r w' => r = .returned (.int .i64 1) ∧ w = w' := by
  have hc0 := h.c0
  have hc1 := h.c1
  clear h
  by_cases h0 : i < 0
  · clear hin
    go_enter Try.func27, Try.ntmps27
    go_wp2
    go_ret
    exact ⟨rfl, rfl⟩
  by_cases h1 : (M : Int) ≤ i
  · clear hin
    go_enter Try.func27, Try.ntmps27
    go_wp2
    go_ret
    exact ⟨rfl, rfl⟩
  by_cases h2 : n < 0
  · clear hin
    go_enter Try.func27, Try.ntmps27
    go_wp2
    go_ret
    exact ⟨rfl, rfl⟩
  · have h3 : (N : Int) ≤ n := by omega
    clear hin
    go_enter Try.func27, Try.ntmps27
    go_wp2
    go_ret
    exact ⟨rfl, rfl⟩

theorem RPush_twice (h : IsRx w rx bl cap n1 V N M R) {i n : Nat} (hi : i < M) (hn : n < N) {a b : Int} (hno : inRef R n 0 M = (a, b)) (ha : 0 ≤ a) :
    Calls Try.prog 27 #[.pointer (some ⟨rx, 0, none⟩), .int .i64 i, .int .i64 n] w fun r w' => r = .returned (.int .i64 9) ∧ w = w' := by
  have hc0 := h.c0
  have hc1 := h.c1
  have HI := Lib.hid (RIn_any h n)
  rw [hno] at HI
  clear h hno
  go_enter Try.func27, Try.ntmps27
  go_wp2_with fail
  refine HI.out.mono ?_
  rintro r w' ⟨rfl, rfl⟩
  go_wp2_with fail
  go_ret
  exact ⟨rfl, rfl⟩
end
end Go.Proofs.Ytgjgcobkppmafaa
