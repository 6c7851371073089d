/- The document's Make (package pinfoldref13). No condition. -/
import Derived.Test.YtmbdhpibkhgkcaaW
import Derived.OwnWalk
namespace Go.Proofs.Ytmbdhpibkhgkcaa
open Go.RowKit

/-- A slice of no bubble. -/
theorem step_build0 {ops : Array Oper} {o : Oper} {a : Act} {w : World} {K : Act → World → Prop} {Q : Exit → Act → World → Prop} {E : Prop}
    (hgd : o.guard = none) (ho : o.op = .buildSlice 43 0 #[])
    (h : K (a.put o.dst (.slice (some ⟨w.heap.size, 0, none⟩) 0 0)) (w.alloc (.cells #[] 35))) :
    if Region.wanted o (yielded ops a.tmps) = true then Oper.wp Try.prog o a w K Q else E := by
  have hw : Region.wanted o (yielded ops a.tmps) = true := by simp [Region.wanted, hgd]
  rw [if_pos hw]
  obtain ⟨i, hi, hz, hs, hb⟩ := info_parts Try.info35
  have hr : (Instr.buildSlice 43 0 #[]).run Try.prog w = .ok (.slice (some ⟨w.heap.size, 0, none⟩) 0 0) (w.alloc (.cells #[] 35)) := by
    simp [Instr.buildSlice, run_underlying Try.underlying43, sizeOf, typeInfo, hi, Instr.fill, newRow]
    rw [show Array.map (fun _ => (default : Value)) (Array.range 0) = #[] from Array.eq_empty_of_size_eq_zero (by simp)]
  unfold Oper.wp execOp
  simp only [ho, Sem.run_bind, List.map_toArray, List.map_nil, hr, Result.andThen_ok]
  exact h

theorem flat_one (ts : Nat → Bk) (n : Nat) : ∀ x ∈ flat ts n, x.oneCell' = true := by
  intro x hx
  simp only [flat, List.mem_map] at hx
  obtain ⟨o, _, rfl⟩ := hx
  rfl


theorem SlB.src {w : World} {v : Value} {n : Nat} {bs : Nat → Bk} (h : SlB w v n bs) : SrcN w v n 19 (flat bs n) := by
  obtain ⟨a, cap, rfl, hx⟩ := h
  by_cases h0 : 0 < n
  · obtain ⟨g, rfl, hc⟩ := hx h0
    refine ⟨_, _, rfl, flat_len bs n, .inr ⟨_, rfl, fun j u hu => ?_⟩⟩
    have hj : j < n * 19 := by
      have := (List.getElem?_eq_some_iff.1 hu).1
      rwa [flat_len] at this
    have e : j = j / 19 * 19 + j % 19 := by omega
    rw [e, flat_at bs (i := j / 19) (by omega) (by omega)] at hu
    have := hc (j / 19) (j % 19) (by omega) (by omega)
    rw [← e] at this
    rw [Addr.add_mid, Nat.zero_add, this]
    exact hu
  · obtain rfl : n = 0 := by omega
    cases a with
    | none => exact ⟨none, cap, rfl, by simp [flat], .inl ⟨rfl, rfl⟩⟩
    | some ad => exact ⟨some ad, cap, rfl, by simp [flat], .inr ⟨ad, rfl, fun j u hu => by simp [flat] at hu⟩⟩

def RMakeTo (w : World) (v : Value) (q : Int × Int × Nat × (Nat → Bk)) (r : Ending) (w' : World) : Prop :=
  ∃ v', r = .returned (.tuple #[v', .int .i64 q.1, .int .i64 q.2.1]) ∧ SlB w' v' q.2.2.1 q.2.2.2 ∧ (v' = v ∨ ∀ g, v'.ownBlock = some g → w.heap.size ≤ g) ∧ Below w.heap.size w w'

section
variable {w w' : World} {n : Nat} {v : Value} {bs : Nat → Bk}

set_option maxRecDepth 100000 in
set_option maxHeartbeats 4000000 in
theorem RMake_yes (h : SlB w v n bs) (up : Int) (m : Ws) (h1 : up = -1 ∨ (0 ≤ up ∧ up < n ∧ bs up.toNat 17 = 1)) (h2 : eqW m ws0 = false) (h3 : n < 32) : Calls Try.prog 33 #[v, .int .i64 up, wsV m] w
    (RMakeTo w v (n, 0, n + 1, updT bs n (newB up m))) := by
  have HE := fun w => eql_ws m ws0 w
  rw [h2] at HE
  have HT := Lib.hid (h.below ((Below.refl w.heap.size w).alloc (Nat.le_refl _) (.cells (wsArr m) 29)))
  have HI := Lib.hid (RIs_any HT.out up)
  have s1 := size29 m
  have HN := Lib.hid (heap_alloc_new w (.cells (wsArr m) 29))
  have HB := Lib.hid ((Below.refl w.heap.size w).alloc (Nat.le_refl _) (.cells (wsArr m) 29))
  have hge : ¬ (32 : Int) ≤ n := by omega
  obtain ⟨V, hV⟩ : ∃ V, V = wsArr m := ⟨_, rfl⟩
  obtain ⟨Z, hZ⟩ : ∃ Z, Z = wsArr ws0 := ⟨_, rfl⟩
  unfold wsV at HE ⊢
  simp only [← hV, ← hZ] at HE
  rw [← hV] at HT HI s1 HN HB
  rw [← hV]
  have HVV := Lib.hid hV
  have HZ := Lib.hid hZ
  have h35 := one35 (newB up m)
  obtain ⟨T, hTT⟩ : ∃ T, buArr (newB up m) = T := ⟨_, rfl⟩
  rw [hTT] at h35
  have HTT := Lib.hid hTT
  have hszT : T.size = 19 := by rw [← hTT]; exact buArr_size _
  obtain ⟨i35, I35, Z35, S35, B35⟩ := info_parts Try.info35
  have I35 := Lib.hid I35
  have Z35 := Lib.hid Z35
  have S35 := Lib.hid S35
  have B35 := Lib.hid B35
  clear hV hZ h2 hTT
  obtain ⟨av, cap, rfl, hg⟩ := h
  rcases h1 with rfl | ⟨u0, u1, u2⟩
  · clear hg
    go_enter Try.func33, Try.ntmps33
    go_upto_region 5 with (first | (refine wpList_load_row rfl 29 _ rfl w.heap.size rfl 29 V (0, 0) _ HN.out Try.underlying29 rfl s1 ?_) | (refine wpList_build29 HZ.out rfl rfl ?_))
    obtain ⟨w2, hw2⟩ : ∃ w2, w.alloc (.cells V 29) = w2 := ⟨_, rfl⟩
    obtain ⟨A, hA⟩ : ∃ A, w.heap.size = A := ⟨_, rfl⟩
    rw [hw2] at HT HN
    rw [hA] at HN
    have HB2 := Lib.hid (show Below w.heap.size w w2 by rw [← hw2]; exact HB.out)
    rw [hw2, hA]
    clear hw2 HB HI
    go_upto_region 9 with fail
    have hA2 : A < w2.heap.size := (Array.getElem?_eq_some_iff.1 HN.out).1
    have KS := Lib.hid (fun (w' : World) (hb : Below w2.heap.size w2 w') => show Below w2.heap.size w2 w' ∧ w'.heap[A]? = some (.cells V 29 (0, 0)) from ⟨hb, (hb.block A hA2).trans HN.out⟩)
    have HS := Lib.hid (fun (w' : World) (hb : Below w2.heap.size w2 w') => show SrcN w' (.slice av n cap) n 19 (flat bs n) from (HT.out.below hb).src)
    refine wp_region_held_drew (S := fun w' => Below w2.heap.size w2 w' ∧ w'.heap[A]? = some (.cells V 29 (0, 0))) (by kernel_rfl) (KS.out _ (Below.refl _ _).drew) (fun hHeld => ?_)
    refine wpAnyH_take (i := 1) (v := ?vap1) rfl (by kernel_rfl) (by kernel_rfl) (by kernel_rfl) (fun _ _ _ h => h) (Or.inl ⟨by rfl, ?hyap1⟩) (by assumption) ?restap1
    case hyap1 => (intro w hSw; (try dsimp only at hSw); go_simp) <;> with_reducible rfl
    simp only [Act.put, List.getElem_toArray, List.getElem_cons_succ, List.getElem_cons_zero, List.setIfInBounds_toArray, List.set_cons_succ, List.set_cons_zero]
    refine wpAnyH_take (i := 3) (v := ?vap3) rfl (by kernel_rfl) (by kernel_rfl) (by kernel_rfl) (fun _ _ _ h => h) (Or.inl ⟨by rfl, ?hyap3⟩) (by assumption) ?restap3
    case hyap3 => (intro w hSw; (try dsimp only at hSw); go_simp) <;> with_reducible rfl
    simp only [Act.put, List.getElem_toArray, List.getElem_cons_succ, List.getElem_cons_zero, List.setIfInBounds_toArray, List.set_cons_succ, List.set_cons_zero]
    refine wpAnyH_take (i := 4) (v := .agg V) rfl (by kernel_rfl) (by kernel_rfl) (by kernel_rfl) (fun _ _ _ h => h) (Or.inl ⟨by rfl, ?hylp⟩) (by assumption) ?restlp
    case hylp =>
      intro w hSw
      exact yields29 (.tmp 5) rfl A rfl hSw.2 s1
    simp only [Act.put, List.getElem_toArray, List.getElem_cons_succ, List.getElem_cons_zero, List.setIfInBounds_toArray, List.set_cons_succ, List.set_cons_zero]
    refine wpAnyH_take (i := 5) (v := .agg (buArr (newB (-1) m))) rfl (by kernel_rfl) (by kernel_rfl) (by kernel_rfl) (fun _ _ _ h => h) (Or.inl ⟨by rfl, ?hynp⟩) (by assumption) ?restnp
    case hynp =>
      intro w hSw
      exact yieldsNew (.tmp 40) (.tmp 41) rfl rfl (by unfold wsV; rw [← HVV.out]; rfl)
    simp only [Act.put, List.getElem_toArray, List.getElem_cons_succ, List.getElem_cons_zero, List.setIfInBounds_toArray, List.set_cons_succ, List.set_cons_zero]
    rw [HTT.out]
    refine wpAnyH_take (i := 8) (v := ?vbp8) rfl (by kernel_rfl) (by kernel_rfl) (by kernel_rfl) (fun _ _ _ h => h) (Or.inl ⟨by rfl, ?hybp8⟩) (by assumption) ?restbp8
    case hybp8 => (intro w hSw; (try dsimp only at hSw); go_simp) <;> with_reducible rfl
    simp only [Act.put, List.getElem_toArray, List.getElem_cons_succ, List.getElem_cons_zero, List.setIfInBounds_toArray, List.set_cons_succ, List.set_cons_zero]
    refine wpAnyH_take (i := 9) (v := ?vbp9) rfl (by kernel_rfl) (by kernel_rfl) (by kernel_rfl) (fun _ _ _ h => h) (Or.inl ⟨by rfl, ?hybp9⟩) (by assumption) ?restbp9
    case hybp9 => (intro w hSw; (try dsimp only at hSw); go_simp) <;> with_reducible rfl
    simp only [Act.put, List.getElem_toArray, List.getElem_cons_succ, List.getElem_cons_zero, List.setIfInBounds_toArray, List.set_cons_succ, List.set_cons_zero]
    have HB0 := Lib.hid ((Below.refl w2.heap.size w2).drew)
    refine wpAnyH_ready (rs := [0, 6]) (by kernel_rfl) (by simp) ?_
    refine AllReadyH.cons rfl (fun K hK => ?_) ?_
    · refine step_build0 (by rfl) (by rfl) ?_
      obtain ⟨W1, hW1⟩ : ∃ W, w2.drew.alloc (.cells #[] 35) = W := ⟨_, rfl⟩
      have HBW1 := Lib.hid (show Below w2.heap.size w2 W1 by rw [← hW1]; exact HB0.out.alloc HB0.out.size _)
      have HO1 := Lib.hid (show W1.ownsRow w2.heap.size 35 19 (.slice (some ⟨w2.heap.size, 0, none⟩) 0 0) 0 [] by rw [← hW1]; exact World.ownsRow_made (w2.drew) #[] 0 HB0.out.size (by decide) rfl)
      rw [hW1]
      clear hW1
      refine hK.out _ _ (KS.out _ HBW1.out) (fun hHeld => ?_)
      clear hK K
      try simp only [Act.put, List.getElem_toArray, List.getElem_cons_succ, List.getElem_cons_zero, List.setIfInBounds_toArray, List.set_cons_succ, List.set_cons_zero]
      refine wpAnyH_ready (rs := [2, 6]) (by kernel_rfl) (by simp) ?_
      refine AllReadyH.cons rfl (fun K hK => ?_) ?_
      · refine step_append_srcN (by rfl) _ _ 43 (by rfl) w2.heap.size 35 i35 _ 19 152 Try.underlying43 I35.out Z35.out S35.out B35.out (buArr_size bk0) (by omega) (by rfl) HO1.out (by rfl) (HS.out _ HBW1.out) (flat_one bs n) (by simp only [maxLen]; omega) (by omega) HBW1.out.size ?_
        intro v2 W2 hown2 hgrow2 hblk2
        have HBW2 := Lib.hid (HBW1.out.grown hgrow2 HBW1.out.size (fun k hk => (HO1.out.lt k hk).1))
        have HO2 := Lib.hid hown2
        clear hown2 hgrow2 hblk2
        refine hK.out _ _ (KS.out _ HBW2.out) (fun hHeld => ?_)
        clear hK K
        try simp only [Act.put, List.getElem_toArray, List.getElem_cons_succ, List.getElem_cons_zero, List.setIfInBounds_toArray, List.set_cons_succ, List.set_cons_zero]
        refine wpAnyH_ready (rs := [6]) (by kernel_rfl) (by simp) ?_
        refine AllReadyH.cons rfl (fun K hK => ?_) AllReadyH.nil
        refine step_build1 (by rfl) (.tmp 42) (by rfl) (newB (-1) m) (by unfold buV; rw [HTT.out]; rfl) ?_
        rw [HTT.out]
        obtain ⟨W3, hW3⟩ : ∃ W, W2.alloc (.cells T 35) = W := ⟨_, rfl⟩
        have HBW3 := Lib.hid (show Below w2.heap.size w2 W3 by rw [← hW3]; exact HBW2.out.alloc HBW2.out.size _)
        have HO3 := Lib.hid (show W3.ownsRow w2.heap.size 35 19 (.slice (some ⟨W2.heap.size, 0, none⟩) 1 1) 1 T.toList by rw [← hW3]; exact World.ownsRow_lit (W2) T 1 HBW2.out.size (by decide) (by rw [hszT]))
        have HO2x3 := HO2.out.alloc (.cells T 35)
        rw [hW3] at HO2x3
        replace HO2x3 := Lib.hid HO2x3
        rw [hW3]
        clear hW3
        refine hK.out _ _ (KS.out _ HBW3.out) (fun hHeld => ?_)
        clear hK K
        try simp only [Act.put, List.getElem_toArray, List.getElem_cons_succ, List.getElem_cons_zero, List.setIfInBounds_toArray, List.set_cons_succ, List.set_cons_zero]
        refine wpAnyH_ready (rs := [7]) (by kernel_rfl) (by simp) ?_
        refine AllReadyH.cons rfl (fun K hK => ?_) AllReadyH.nil
        refine step_append_srcN (by rfl) _ _ 43 (by rfl) w2.heap.size 35 i35 _ 19 152 Try.underlying43 I35.out Z35.out S35.out B35.out (buArr_size bk0) (by omega) (by rfl) HO2x3.out (by rfl) (SrcN.own HO3.out) (by intro u hu; have := h35; rw [Array.all_eq_true_iff_forall_mem] at this; exact this u (by simpa using hu)) (by simp only [maxLen]; omega) (by omega) HBW3.out.size ?_
        intro v4 W4 hown4 hgrow4 hblk4
        have HBW4 := Lib.hid (HBW3.out.grown hgrow4 HBW3.out.size (fun k hk => (HO2x3.out.lt k hk).1))
        have HO4 := Lib.hid hown4
        clear hown4 hgrow4 hblk4
        refine hK.out _ _ (KS.out _ HBW4.out) (fun hHeld => ?_)
        clear hK K
        try simp only [Act.put, List.getElem_toArray, List.getElem_cons_succ, List.getElem_cons_zero, List.setIfInBounds_toArray, List.set_cons_succ, List.set_cons_zero]
        have hf0 := HO4.out
        rw [Nat.zero_add, List.nil_append, ← HTT.out, flat_more] at hf0
        have HF := Lib.hid hf0
        clear hf0
        have HX := Lib.hid HBW4.out
        refine wpAnyH_take (i := 10) (v := ?vz4_10) rfl (by kernel_rfl) (by kernel_rfl) (by kernel_rfl) (fun _ _ _ h => h) (Or.inl ⟨by rfl, ?hyz4_10⟩) (by assumption) ?restz4_10
        case hyz4_10 => (intro w hSw; (try dsimp only at hSw); go_simp) <;> with_reducible rfl
        simp only [Act.put, List.getElem_toArray, List.getElem_cons_succ, List.getElem_cons_zero, List.setIfInBounds_toArray, List.set_cons_succ, List.set_cons_zero]
        refine wpAnyH_take (i := 11) (v := ?vz4_11) rfl (by kernel_rfl) (by kernel_rfl) (by kernel_rfl) (fun _ _ _ h => h) (Or.inl ⟨by rfl, ?hyz4_11⟩) (by assumption) ?restz4_11
        case hyz4_11 => (intro w hSw; (try dsimp only at hSw); go_simp) <;> with_reducible rfl
        simp only [Act.put, List.getElem_toArray, List.getElem_cons_succ, List.getElem_cons_zero, List.setIfInBounds_toArray, List.set_cons_succ, List.set_cons_zero]
        refine wpAnyH_take (i := 12) (v := ?vz4_12) rfl (by kernel_rfl) (by kernel_rfl) (by kernel_rfl) (fun _ _ _ h => h) (Or.inl ⟨by rfl, ?hyz4_12⟩) (by assumption) ?restz4_12
        case hyz4_12 => (intro w hSw; (try dsimp only at hSw); go_simp) <;> with_reducible rfl
        simp only [Act.put, List.getElem_toArray, List.getElem_cons_succ, List.getElem_cons_zero, List.setIfInBounds_toArray, List.set_cons_succ, List.set_cons_zero]
        refine wpAnyH_done (by kernel_rfl) ?_ _
        go_wp2_with fail
        go_ret3
        exact ⟨_, rfl, SlB.own HF.out, .inr (fun g hg => Nat.le_trans HB2.out.size (HF.out.lt g hg).1), HB2.out.trans (HX.out.mono HB2.out.size)⟩
      refine AllReadyH.cons rfl (fun K hK => ?_) AllReadyH.nil
      refine step_build1 (by rfl) (.tmp 42) (by rfl) (newB (-1) m) (by unfold buV; rw [HTT.out]; rfl) ?_
      rw [HTT.out]
      obtain ⟨W5, hW5⟩ : ∃ W, W1.alloc (.cells T 35) = W := ⟨_, rfl⟩
      have HBW5 := Lib.hid (show Below w2.heap.size w2 W5 by rw [← hW5]; exact HBW1.out.alloc HBW1.out.size _)
      have HO5 := Lib.hid (show W5.ownsRow w2.heap.size 35 19 (.slice (some ⟨W1.heap.size, 0, none⟩) 1 1) 1 T.toList by rw [← hW5]; exact World.ownsRow_lit (W1) T 1 HBW1.out.size (by decide) (by rw [hszT]))
      have HO1x5 := HO1.out.alloc (.cells T 35)
      rw [hW5] at HO1x5
      replace HO1x5 := Lib.hid HO1x5
      rw [hW5]
      clear hW5
      refine hK.out _ _ (KS.out _ HBW5.out) (fun hHeld => ?_)
      clear hK K
      try simp only [Act.put, List.getElem_toArray, List.getElem_cons_succ, List.getElem_cons_zero, List.setIfInBounds_toArray, List.set_cons_succ, List.set_cons_zero]
      refine wpAnyH_ready (rs := [2]) (by kernel_rfl) (by simp) ?_
      refine AllReadyH.cons rfl (fun K hK => ?_) AllReadyH.nil
      refine step_append_srcN (by rfl) _ _ 43 (by rfl) w2.heap.size 35 i35 _ 19 152 Try.underlying43 I35.out Z35.out S35.out B35.out (buArr_size bk0) (by omega) (by rfl) HO1x5.out (by rfl) (HS.out _ HBW5.out) (flat_one bs n) (by simp only [maxLen]; omega) (by omega) HBW5.out.size ?_
      intro v6 W6 hown6 hgrow6 hblk6
      have HBW6 := Lib.hid (HBW5.out.grown hgrow6 HBW5.out.size (fun k hk => (HO1x5.out.lt k hk).1))
      have HO6 := Lib.hid hown6
      have HO5y6 := Lib.hid (HO5.out.kept hgrow6 (.inr (fun e => by have e : W1.heap.size = w2.heap.size := Option.some.inj e; have : w2.heap.size < W1.heap.size := (HO1.out.lt _ rfl).2; omega)))
      clear hown6 hgrow6 hblk6
      refine hK.out _ _ (KS.out _ HBW6.out) (fun hHeld => ?_)
      clear hK K
      try simp only [Act.put, List.getElem_toArray, List.getElem_cons_succ, List.getElem_cons_zero, List.setIfInBounds_toArray, List.set_cons_succ, List.set_cons_zero]
      refine wpAnyH_ready (rs := [7]) (by kernel_rfl) (by simp) ?_
      refine AllReadyH.cons rfl (fun K hK => ?_) AllReadyH.nil
      refine step_append_srcN (by rfl) _ _ 43 (by rfl) w2.heap.size 35 i35 _ 19 152 Try.underlying43 I35.out Z35.out S35.out B35.out (buArr_size bk0) (by omega) (by rfl) HO6.out (by rfl) (SrcN.own HO5y6.out) (by intro u hu; have := h35; rw [Array.all_eq_true_iff_forall_mem] at this; exact this u (by simpa using hu)) (by simp only [maxLen]; omega) (by omega) HBW6.out.size ?_
      intro v7 W7 hown7 hgrow7 hblk7
      have HBW7 := Lib.hid (HBW6.out.grown hgrow7 HBW6.out.size (fun k hk => (HO6.out.lt k hk).1))
      have HO7 := Lib.hid hown7
      clear hown7 hgrow7 hblk7
      refine hK.out _ _ (KS.out _ HBW7.out) (fun hHeld => ?_)
      clear hK K
      try simp only [Act.put, List.getElem_toArray, List.getElem_cons_succ, List.getElem_cons_zero, List.setIfInBounds_toArray, List.set_cons_succ, List.set_cons_zero]
      have hf0 := HO7.out
      rw [Nat.zero_add, List.nil_append, ← HTT.out, flat_more] at hf0
      have HF := Lib.hid hf0
      clear hf0
      have HX := Lib.hid HBW7.out
      refine wpAnyH_take (i := 10) (v := ?vz7_10) rfl (by kernel_rfl) (by kernel_rfl) (by kernel_rfl) (fun _ _ _ h => h) (Or.inl ⟨by rfl, ?hyz7_10⟩) (by assumption) ?restz7_10
      case hyz7_10 => (intro w hSw; (try dsimp only at hSw); go_simp) <;> with_reducible rfl
      simp only [Act.put, List.getElem_toArray, List.getElem_cons_succ, List.getElem_cons_zero, List.setIfInBounds_toArray, List.set_cons_succ, List.set_cons_zero]
      refine wpAnyH_take (i := 11) (v := ?vz7_11) rfl (by kernel_rfl) (by kernel_rfl) (by kernel_rfl) (fun _ _ _ h => h) (Or.inl ⟨by rfl, ?hyz7_11⟩) (by assumption) ?restz7_11
      case hyz7_11 => (intro w hSw; (try dsimp only at hSw); go_simp) <;> with_reducible rfl
      simp only [Act.put, List.getElem_toArray, List.getElem_cons_succ, List.getElem_cons_zero, List.setIfInBounds_toArray, List.set_cons_succ, List.set_cons_zero]
      refine wpAnyH_take (i := 12) (v := ?vz7_12) rfl (by kernel_rfl) (by kernel_rfl) (by kernel_rfl) (fun _ _ _ h => h) (Or.inl ⟨by rfl, ?hyz7_12⟩) (by assumption) ?restz7_12
      case hyz7_12 => (intro w hSw; (try dsimp only at hSw); go_simp) <;> with_reducible rfl
      simp only [Act.put, List.getElem_toArray, List.getElem_cons_succ, List.getElem_cons_zero, List.setIfInBounds_toArray, List.set_cons_succ, List.set_cons_zero]
      refine wpAnyH_done (by kernel_rfl) ?_ _
      go_wp2_with fail
      go_ret3
      exact ⟨_, rfl, SlB.own HF.out, .inr (fun g hg => Nat.le_trans HB2.out.size (HF.out.lt g hg).1), HB2.out.trans (HX.out.mono HB2.out.size)⟩
    refine AllReadyH.cons rfl (fun K hK => ?_) AllReadyH.nil
    refine step_build1 (by rfl) (.tmp 42) (by rfl) (newB (-1) m) (by unfold buV; rw [HTT.out]; rfl) ?_
    rw [HTT.out]
    obtain ⟨W8, hW8⟩ : ∃ W, w2.drew.alloc (.cells T 35) = W := ⟨_, rfl⟩
    have HBW8 := Lib.hid (show Below w2.heap.size w2 W8 by rw [← hW8]; exact HB0.out.alloc HB0.out.size _)
    have HO8 := Lib.hid (show W8.ownsRow w2.heap.size 35 19 (.slice (some ⟨w2.heap.size, 0, none⟩) 1 1) 1 T.toList by rw [← hW8]; exact World.ownsRow_lit (w2.drew) T 1 HB0.out.size (by decide) (by rw [hszT]))
    rw [hW8]
    clear hW8
    refine hK.out _ _ (KS.out _ HBW8.out) (fun hHeld => ?_)
    clear hK K
    try simp only [Act.put, List.getElem_toArray, List.getElem_cons_succ, List.getElem_cons_zero, List.setIfInBounds_toArray, List.set_cons_succ, List.set_cons_zero]
    refine wpAnyH_ready (rs := [0]) (by kernel_rfl) (by simp) ?_
    refine AllReadyH.cons rfl (fun K hK => ?_) AllReadyH.nil
    refine step_build0 (by rfl) (by rfl) ?_
    obtain ⟨W9, hW9⟩ : ∃ W, W8.alloc (.cells #[] 35) = W := ⟨_, rfl⟩
    have HBW9 := Lib.hid (show Below w2.heap.size w2 W9 by rw [← hW9]; exact HBW8.out.alloc HBW8.out.size _)
    have HO9 := Lib.hid (show W9.ownsRow w2.heap.size 35 19 (.slice (some ⟨W8.heap.size, 0, none⟩) 0 0) 0 [] by rw [← hW9]; exact World.ownsRow_made (W8) #[] 0 HBW8.out.size (by decide) rfl)
    have HO8x9 := HO8.out.alloc (.cells #[] 35)
    rw [hW9] at HO8x9
    replace HO8x9 := Lib.hid HO8x9
    rw [hW9]
    clear hW9
    refine hK.out _ _ (KS.out _ HBW9.out) (fun hHeld => ?_)
    clear hK K
    try simp only [Act.put, List.getElem_toArray, List.getElem_cons_succ, List.getElem_cons_zero, List.setIfInBounds_toArray, List.set_cons_succ, List.set_cons_zero]
    refine wpAnyH_ready (rs := [2]) (by kernel_rfl) (by simp) ?_
    refine AllReadyH.cons rfl (fun K hK => ?_) AllReadyH.nil
    refine step_append_srcN (by rfl) _ _ 43 (by rfl) w2.heap.size 35 i35 _ 19 152 Try.underlying43 I35.out Z35.out S35.out B35.out (buArr_size bk0) (by omega) (by rfl) HO9.out (by rfl) (HS.out _ HBW9.out) (flat_one bs n) (by simp only [maxLen]; omega) (by omega) HBW9.out.size ?_
    intro v10 W10 hown10 hgrow10 hblk10
    have HBW10 := Lib.hid (HBW9.out.grown hgrow10 HBW9.out.size (fun k hk => (HO9.out.lt k hk).1))
    have HO10 := Lib.hid hown10
    have HO8x9y10 := Lib.hid (HO8x9.out.kept hgrow10 (.inr (fun e => by have e : w2.heap.size = W8.heap.size := Option.some.inj e; have : w2.heap.size < W8.heap.size := (HO8.out.lt _ rfl).2; omega)))
    clear hown10 hgrow10 hblk10
    refine hK.out _ _ (KS.out _ HBW10.out) (fun hHeld => ?_)
    clear hK K
    try simp only [Act.put, List.getElem_toArray, List.getElem_cons_succ, List.getElem_cons_zero, List.setIfInBounds_toArray, List.set_cons_succ, List.set_cons_zero]
    refine wpAnyH_ready (rs := [7]) (by kernel_rfl) (by simp) ?_
    refine AllReadyH.cons rfl (fun K hK => ?_) AllReadyH.nil
    refine step_append_srcN (by rfl) _ _ 43 (by rfl) w2.heap.size 35 i35 _ 19 152 Try.underlying43 I35.out Z35.out S35.out B35.out (buArr_size bk0) (by omega) (by rfl) HO10.out (by rfl) (SrcN.own HO8x9y10.out) (by intro u hu; have := h35; rw [Array.all_eq_true_iff_forall_mem] at this; exact this u (by simpa using hu)) (by simp only [maxLen]; omega) (by omega) HBW10.out.size ?_
    intro v11 W11 hown11 hgrow11 hblk11
    have HBW11 := Lib.hid (HBW10.out.grown hgrow11 HBW10.out.size (fun k hk => (HO10.out.lt k hk).1))
    have HO11 := Lib.hid hown11
    clear hown11 hgrow11 hblk11
    refine hK.out _ _ (KS.out _ HBW11.out) (fun hHeld => ?_)
    clear hK K
    try simp only [Act.put, List.getElem_toArray, List.getElem_cons_succ, List.getElem_cons_zero, List.setIfInBounds_toArray, List.set_cons_succ, List.set_cons_zero]
    have hf0 := HO11.out
    rw [Nat.zero_add, List.nil_append, ← HTT.out, flat_more] at hf0
    have HF := Lib.hid hf0
    clear hf0
    have HX := Lib.hid HBW11.out
    refine wpAnyH_take (i := 10) (v := ?vz11_10) rfl (by kernel_rfl) (by kernel_rfl) (by kernel_rfl) (fun _ _ _ h => h) (Or.inl ⟨by rfl, ?hyz11_10⟩) (by assumption) ?restz11_10
    case hyz11_10 => (intro w hSw; (try dsimp only at hSw); go_simp) <;> with_reducible rfl
    simp only [Act.put, List.getElem_toArray, List.getElem_cons_succ, List.getElem_cons_zero, List.setIfInBounds_toArray, List.set_cons_succ, List.set_cons_zero]
    refine wpAnyH_take (i := 11) (v := ?vz11_11) rfl (by kernel_rfl) (by kernel_rfl) (by kernel_rfl) (fun _ _ _ h => h) (Or.inl ⟨by rfl, ?hyz11_11⟩) (by assumption) ?restz11_11
    case hyz11_11 => (intro w hSw; (try dsimp only at hSw); go_simp) <;> with_reducible rfl
    simp only [Act.put, List.getElem_toArray, List.getElem_cons_succ, List.getElem_cons_zero, List.setIfInBounds_toArray, List.set_cons_succ, List.set_cons_zero]
    refine wpAnyH_take (i := 12) (v := ?vz11_12) rfl (by kernel_rfl) (by kernel_rfl) (by kernel_rfl) (fun _ _ _ h => h) (Or.inl ⟨by rfl, ?hyz11_12⟩) (by assumption) ?restz11_12
    case hyz11_12 => (intro w hSw; (try dsimp only at hSw); go_simp) <;> with_reducible rfl
    simp only [Act.put, List.getElem_toArray, List.getElem_cons_succ, List.getElem_cons_zero, List.setIfInBounds_toArray, List.set_cons_succ, List.set_cons_zero]
    refine wpAnyH_done (by kernel_rfl) ?_ _
    go_wp2_with fail
    go_ret3
    exact ⟨_, rfl, SlB.own HF.out, .inr (fun g hg => Nat.le_trans HB2.out.size (HF.out.lt g hg).1), HB2.out.trans (HX.out.mono HB2.out.size)⟩
  · obtain ⟨u, rfl⟩ := Int.eq_ofNat_of_zero_le u0
    have hu : u < n := by omega
    obtain ⟨g, rfl, hgx⟩ := hg (by omega)
    rw [Int.toNat_natCast] at u2
    rw [show isB n (u : Int) = true by unfold isB; exact decide_eq_true ⟨u0, u1⟩] at HI
    have hne1 : ((u : Int) == -1) = false := by first | (simp; done) | (simp; omega)
    have hne2 : ((u : Int) != -1) = true := by first | (simp; done) | (simp; omega)
    have cs := (HB.out.cell (p := ⟨g, u * 19 + 17, none⟩) (World.block_lt_of_cell? _ _ (hgx u 17 hu (by omega)))).trans (hgx u 17 hu (by omega))
    rw [show buKind 17 = .i64 from rfl, u2] at cs
    clear u2 hgx
    go_enter Try.func33, Try.ntmps33
    go_wp2_with fail
    refine HI.out.mono ?_
    rintro r w' ⟨rfl, rfl⟩
    go_upto_region 5 with (first | (refine wpList_load_row rfl 29 _ rfl w.heap.size rfl 29 V (0, 0) _ HN.out Try.underlying29 rfl s1 ?_) | (refine wpList_build29 HZ.out rfl rfl ?_))
    obtain ⟨w2, hw2⟩ : ∃ w2, w.alloc (.cells V 29) = w2 := ⟨_, rfl⟩
    obtain ⟨A, hA⟩ : ∃ A, w.heap.size = A := ⟨_, rfl⟩
    rw [hw2] at HT HN
    rw [hA] at HN
    have HB2 := Lib.hid (show Below w.heap.size w w2 by rw [← hw2]; exact HB.out)
    rw [hw2] at cs
    rw [hw2, hA]
    clear hw2 HB HI
    go_upto_region 9 with fail
    have hA2 : A < w2.heap.size := (Array.getElem?_eq_some_iff.1 HN.out).1
    have KS := Lib.hid (fun (w' : World) (hb : Below w2.heap.size w2 w') => show Below w2.heap.size w2 w' ∧ w'.heap[A]? = some (.cells V 29 (0, 0)) from ⟨hb, (hb.block A hA2).trans HN.out⟩)
    have HS := Lib.hid (fun (w' : World) (hb : Below w2.heap.size w2 w') => show SrcN w' (.slice (some ⟨g, 0, none⟩) n cap) n 19 (flat bs n) from (HT.out.below hb).src)
    refine wp_region_held_drew (S := fun w' => Below w2.heap.size w2 w' ∧ w'.heap[A]? = some (.cells V 29 (0, 0))) (by kernel_rfl) (KS.out _ (Below.refl _ _).drew) (fun hHeld => ?_)
    refine wpAnyH_take (i := 1) (v := ?vaq1) rfl (by kernel_rfl) (by kernel_rfl) (by kernel_rfl) (fun _ _ _ h => h) (Or.inl ⟨by rfl, ?hyaq1⟩) (by assumption) ?restaq1
    case hyaq1 => (intro w hSw; (try dsimp only at hSw); go_simp) <;> with_reducible rfl
    simp only [Act.put, List.getElem_toArray, List.getElem_cons_succ, List.getElem_cons_zero, List.setIfInBounds_toArray, List.set_cons_succ, List.set_cons_zero]
    refine wpAnyH_take (i := 3) (v := ?vaq3) rfl (by kernel_rfl) (by kernel_rfl) (by kernel_rfl) (fun _ _ _ h => h) (Or.inl ⟨by rfl, ?hyaq3⟩) (by assumption) ?restaq3
    case hyaq3 => (intro w hSw; (try dsimp only at hSw); go_simp) <;> with_reducible rfl
    simp only [Act.put, List.getElem_toArray, List.getElem_cons_succ, List.getElem_cons_zero, List.setIfInBounds_toArray, List.set_cons_succ, List.set_cons_zero]
    refine wpAnyH_take (i := 4) (v := .agg V) rfl (by kernel_rfl) (by kernel_rfl) (by kernel_rfl) (fun _ _ _ h => h) (Or.inl ⟨by rfl, ?hylq⟩) (by assumption) ?restlq
    case hylq =>
      intro w hSw
      exact yields29 (.tmp 5) rfl A rfl hSw.2 s1
    simp only [Act.put, List.getElem_toArray, List.getElem_cons_succ, List.getElem_cons_zero, List.setIfInBounds_toArray, List.set_cons_succ, List.set_cons_zero]
    refine wpAnyH_take (i := 5) (v := .agg (buArr (newB u m))) rfl (by kernel_rfl) (by kernel_rfl) (by kernel_rfl) (fun _ _ _ h => h) (Or.inl ⟨by rfl, ?hynq⟩) (by assumption) ?restnq
    case hynq =>
      intro w hSw
      exact yieldsNew (.tmp 40) (.tmp 41) rfl rfl (by unfold wsV; rw [← HVV.out]; rfl)
    simp only [Act.put, List.getElem_toArray, List.getElem_cons_succ, List.getElem_cons_zero, List.setIfInBounds_toArray, List.set_cons_succ, List.set_cons_zero]
    rw [HTT.out]
    refine wpAnyH_take (i := 8) (v := ?vbq8) rfl (by kernel_rfl) (by kernel_rfl) (by kernel_rfl) (fun _ _ _ h => h) (Or.inl ⟨by rfl, ?hybq8⟩) (by assumption) ?restbq8
    case hybq8 => (intro w hSw; (try dsimp only at hSw); go_simp) <;> with_reducible rfl
    simp only [Act.put, List.getElem_toArray, List.getElem_cons_succ, List.getElem_cons_zero, List.setIfInBounds_toArray, List.set_cons_succ, List.set_cons_zero]
    refine wpAnyH_take (i := 9) (v := ?vbq9) rfl (by kernel_rfl) (by kernel_rfl) (by kernel_rfl) (fun _ _ _ h => h) (Or.inl ⟨by rfl, ?hybq9⟩) (by assumption) ?restbq9
    case hybq9 => (intro w hSw; (try dsimp only at hSw); go_simp) <;> with_reducible rfl
    simp only [Act.put, List.getElem_toArray, List.getElem_cons_succ, List.getElem_cons_zero, List.setIfInBounds_toArray, List.set_cons_succ, List.set_cons_zero]
    have HB0 := Lib.hid ((Below.refl w2.heap.size w2).drew)
    refine wpAnyH_ready (rs := [0, 6]) (by kernel_rfl) (by simp) ?_
    refine AllReadyH.cons rfl (fun K hK => ?_) ?_
    · refine step_build0 (by rfl) (by rfl) ?_
      obtain ⟨W12, hW12⟩ : ∃ W, w2.drew.alloc (.cells #[] 35) = W := ⟨_, rfl⟩
      have HBW12 := Lib.hid (show Below w2.heap.size w2 W12 by rw [← hW12]; exact HB0.out.alloc HB0.out.size _)
      have HO12 := Lib.hid (show W12.ownsRow w2.heap.size 35 19 (.slice (some ⟨w2.heap.size, 0, none⟩) 0 0) 0 [] by rw [← hW12]; exact World.ownsRow_made (w2.drew) #[] 0 HB0.out.size (by decide) rfl)
      rw [hW12]
      clear hW12
      refine hK.out _ _ (KS.out _ HBW12.out) (fun hHeld => ?_)
      clear hK K
      try simp only [Act.put, List.getElem_toArray, List.getElem_cons_succ, List.getElem_cons_zero, List.setIfInBounds_toArray, List.set_cons_succ, List.set_cons_zero]
      refine wpAnyH_ready (rs := [2, 6]) (by kernel_rfl) (by simp) ?_
      refine AllReadyH.cons rfl (fun K hK => ?_) ?_
      · refine step_append_srcN (by rfl) _ _ 43 (by rfl) w2.heap.size 35 i35 _ 19 152 Try.underlying43 I35.out Z35.out S35.out B35.out (buArr_size bk0) (by omega) (by rfl) HO12.out (by rfl) (HS.out _ HBW12.out) (flat_one bs n) (by simp only [maxLen]; omega) (by omega) HBW12.out.size ?_
        intro v13 W13 hown13 hgrow13 hblk13
        have HBW13 := Lib.hid (HBW12.out.grown hgrow13 HBW12.out.size (fun k hk => (HO12.out.lt k hk).1))
        have HO13 := Lib.hid hown13
        clear hown13 hgrow13 hblk13
        refine hK.out _ _ (KS.out _ HBW13.out) (fun hHeld => ?_)
        clear hK K
        try simp only [Act.put, List.getElem_toArray, List.getElem_cons_succ, List.getElem_cons_zero, List.setIfInBounds_toArray, List.set_cons_succ, List.set_cons_zero]
        refine wpAnyH_ready (rs := [6]) (by kernel_rfl) (by simp) ?_
        refine AllReadyH.cons rfl (fun K hK => ?_) AllReadyH.nil
        refine step_build1 (by rfl) (.tmp 42) (by rfl) (newB u m) (by unfold buV; rw [HTT.out]; rfl) ?_
        rw [HTT.out]
        obtain ⟨W14, hW14⟩ : ∃ W, W13.alloc (.cells T 35) = W := ⟨_, rfl⟩
        have HBW14 := Lib.hid (show Below w2.heap.size w2 W14 by rw [← hW14]; exact HBW13.out.alloc HBW13.out.size _)
        have HO14 := Lib.hid (show W14.ownsRow w2.heap.size 35 19 (.slice (some ⟨W13.heap.size, 0, none⟩) 1 1) 1 T.toList by rw [← hW14]; exact World.ownsRow_lit (W13) T 1 HBW13.out.size (by decide) (by rw [hszT]))
        have HO13x14 := HO13.out.alloc (.cells T 35)
        rw [hW14] at HO13x14
        replace HO13x14 := Lib.hid HO13x14
        rw [hW14]
        clear hW14
        refine hK.out _ _ (KS.out _ HBW14.out) (fun hHeld => ?_)
        clear hK K
        try simp only [Act.put, List.getElem_toArray, List.getElem_cons_succ, List.getElem_cons_zero, List.setIfInBounds_toArray, List.set_cons_succ, List.set_cons_zero]
        refine wpAnyH_ready (rs := [7]) (by kernel_rfl) (by simp) ?_
        refine AllReadyH.cons rfl (fun K hK => ?_) AllReadyH.nil
        refine step_append_srcN (by rfl) _ _ 43 (by rfl) w2.heap.size 35 i35 _ 19 152 Try.underlying43 I35.out Z35.out S35.out B35.out (buArr_size bk0) (by omega) (by rfl) HO13x14.out (by rfl) (SrcN.own HO14.out) (by intro u hu; have := h35; rw [Array.all_eq_true_iff_forall_mem] at this; exact this u (by simpa using hu)) (by simp only [maxLen]; omega) (by omega) HBW14.out.size ?_
        intro v15 W15 hown15 hgrow15 hblk15
        have HBW15 := Lib.hid (HBW14.out.grown hgrow15 HBW14.out.size (fun k hk => (HO13x14.out.lt k hk).1))
        have HO15 := Lib.hid hown15
        clear hown15 hgrow15 hblk15
        refine hK.out _ _ (KS.out _ HBW15.out) (fun hHeld => ?_)
        clear hK K
        try simp only [Act.put, List.getElem_toArray, List.getElem_cons_succ, List.getElem_cons_zero, List.setIfInBounds_toArray, List.set_cons_succ, List.set_cons_zero]
        have hf0 := HO15.out
        rw [Nat.zero_add, List.nil_append, ← HTT.out, flat_more] at hf0
        have HF := Lib.hid hf0
        clear hf0
        have HX := Lib.hid HBW15.out
        refine wpAnyH_take (i := 10) (v := ?vz15_10) rfl (by kernel_rfl) (by kernel_rfl) (by kernel_rfl) (fun _ _ _ h => h) (Or.inl ⟨by rfl, ?hyz15_10⟩) (by assumption) ?restz15_10
        case hyz15_10 => (intro w hSw; (try dsimp only at hSw); go_simp) <;> with_reducible rfl
        simp only [Act.put, List.getElem_toArray, List.getElem_cons_succ, List.getElem_cons_zero, List.setIfInBounds_toArray, List.set_cons_succ, List.set_cons_zero]
        refine wpAnyH_take (i := 11) (v := ?vz15_11) rfl (by kernel_rfl) (by kernel_rfl) (by kernel_rfl) (fun _ _ _ h => h) (Or.inl ⟨by rfl, ?hyz15_11⟩) (by assumption) ?restz15_11
        case hyz15_11 => (intro w hSw; (try dsimp only at hSw); go_simp) <;> with_reducible rfl
        simp only [Act.put, List.getElem_toArray, List.getElem_cons_succ, List.getElem_cons_zero, List.setIfInBounds_toArray, List.set_cons_succ, List.set_cons_zero]
        refine wpAnyH_take (i := 12) (v := ?vz15_12) rfl (by kernel_rfl) (by kernel_rfl) (by kernel_rfl) (fun _ _ _ h => h) (Or.inl ⟨by rfl, ?hyz15_12⟩) (by assumption) ?restz15_12
        case hyz15_12 => (intro w hSw; (try dsimp only at hSw); go_simp) <;> with_reducible rfl
        simp only [Act.put, List.getElem_toArray, List.getElem_cons_succ, List.getElem_cons_zero, List.setIfInBounds_toArray, List.set_cons_succ, List.set_cons_zero]
        refine wpAnyH_done (by kernel_rfl) ?_ _
        go_wp2_with fail
        go_ret3
        exact ⟨_, rfl, SlB.own HF.out, .inr (fun g hg => Nat.le_trans HB2.out.size (HF.out.lt g hg).1), HB2.out.trans (HX.out.mono HB2.out.size)⟩
      refine AllReadyH.cons rfl (fun K hK => ?_) AllReadyH.nil
      refine step_build1 (by rfl) (.tmp 42) (by rfl) (newB u m) (by unfold buV; rw [HTT.out]; rfl) ?_
      rw [HTT.out]
      obtain ⟨W16, hW16⟩ : ∃ W, W12.alloc (.cells T 35) = W := ⟨_, rfl⟩
      have HBW16 := Lib.hid (show Below w2.heap.size w2 W16 by rw [← hW16]; exact HBW12.out.alloc HBW12.out.size _)
      have HO16 := Lib.hid (show W16.ownsRow w2.heap.size 35 19 (.slice (some ⟨W12.heap.size, 0, none⟩) 1 1) 1 T.toList by rw [← hW16]; exact World.ownsRow_lit (W12) T 1 HBW12.out.size (by decide) (by rw [hszT]))
      have HO12x16 := HO12.out.alloc (.cells T 35)
      rw [hW16] at HO12x16
      replace HO12x16 := Lib.hid HO12x16
      rw [hW16]
      clear hW16
      refine hK.out _ _ (KS.out _ HBW16.out) (fun hHeld => ?_)
      clear hK K
      try simp only [Act.put, List.getElem_toArray, List.getElem_cons_succ, List.getElem_cons_zero, List.setIfInBounds_toArray, List.set_cons_succ, List.set_cons_zero]
      refine wpAnyH_ready (rs := [2]) (by kernel_rfl) (by simp) ?_
      refine AllReadyH.cons rfl (fun K hK => ?_) AllReadyH.nil
      refine step_append_srcN (by rfl) _ _ 43 (by rfl) w2.heap.size 35 i35 _ 19 152 Try.underlying43 I35.out Z35.out S35.out B35.out (buArr_size bk0) (by omega) (by rfl) HO12x16.out (by rfl) (HS.out _ HBW16.out) (flat_one bs n) (by simp only [maxLen]; omega) (by omega) HBW16.out.size ?_
      intro v17 W17 hown17 hgrow17 hblk17
      have HBW17 := Lib.hid (HBW16.out.grown hgrow17 HBW16.out.size (fun k hk => (HO12x16.out.lt k hk).1))
      have HO17 := Lib.hid hown17
      have HO16y17 := Lib.hid (HO16.out.kept hgrow17 (.inr (fun e => by have e : W12.heap.size = w2.heap.size := Option.some.inj e; have : w2.heap.size < W12.heap.size := (HO12.out.lt _ rfl).2; omega)))
      clear hown17 hgrow17 hblk17
      refine hK.out _ _ (KS.out _ HBW17.out) (fun hHeld => ?_)
      clear hK K
      try simp only [Act.put, List.getElem_toArray, List.getElem_cons_succ, List.getElem_cons_zero, List.setIfInBounds_toArray, List.set_cons_succ, List.set_cons_zero]
      refine wpAnyH_ready (rs := [7]) (by kernel_rfl) (by simp) ?_
      refine AllReadyH.cons rfl (fun K hK => ?_) AllReadyH.nil
      refine step_append_srcN (by rfl) _ _ 43 (by rfl) w2.heap.size 35 i35 _ 19 152 Try.underlying43 I35.out Z35.out S35.out B35.out (buArr_size bk0) (by omega) (by rfl) HO17.out (by rfl) (SrcN.own HO16y17.out) (by intro u hu; have := h35; rw [Array.all_eq_true_iff_forall_mem] at this; exact this u (by simpa using hu)) (by simp only [maxLen]; omega) (by omega) HBW17.out.size ?_
      intro v18 W18 hown18 hgrow18 hblk18
      have HBW18 := Lib.hid (HBW17.out.grown hgrow18 HBW17.out.size (fun k hk => (HO17.out.lt k hk).1))
      have HO18 := Lib.hid hown18
      clear hown18 hgrow18 hblk18
      refine hK.out _ _ (KS.out _ HBW18.out) (fun hHeld => ?_)
      clear hK K
      try simp only [Act.put, List.getElem_toArray, List.getElem_cons_succ, List.getElem_cons_zero, List.setIfInBounds_toArray, List.set_cons_succ, List.set_cons_zero]
      have hf0 := HO18.out
      rw [Nat.zero_add, List.nil_append, ← HTT.out, flat_more] at hf0
      have HF := Lib.hid hf0
      clear hf0
      have HX := Lib.hid HBW18.out
      refine wpAnyH_take (i := 10) (v := ?vz18_10) rfl (by kernel_rfl) (by kernel_rfl) (by kernel_rfl) (fun _ _ _ h => h) (Or.inl ⟨by rfl, ?hyz18_10⟩) (by assumption) ?restz18_10
      case hyz18_10 => (intro w hSw; (try dsimp only at hSw); go_simp) <;> with_reducible rfl
      simp only [Act.put, List.getElem_toArray, List.getElem_cons_succ, List.getElem_cons_zero, List.setIfInBounds_toArray, List.set_cons_succ, List.set_cons_zero]
      refine wpAnyH_take (i := 11) (v := ?vz18_11) rfl (by kernel_rfl) (by kernel_rfl) (by kernel_rfl) (fun _ _ _ h => h) (Or.inl ⟨by rfl, ?hyz18_11⟩) (by assumption) ?restz18_11
      case hyz18_11 => (intro w hSw; (try dsimp only at hSw); go_simp) <;> with_reducible rfl
      simp only [Act.put, List.getElem_toArray, List.getElem_cons_succ, List.getElem_cons_zero, List.setIfInBounds_toArray, List.set_cons_succ, List.set_cons_zero]
      refine wpAnyH_take (i := 12) (v := ?vz18_12) rfl (by kernel_rfl) (by kernel_rfl) (by kernel_rfl) (fun _ _ _ h => h) (Or.inl ⟨by rfl, ?hyz18_12⟩) (by assumption) ?restz18_12
      case hyz18_12 => (intro w hSw; (try dsimp only at hSw); go_simp) <;> with_reducible rfl
      simp only [Act.put, List.getElem_toArray, List.getElem_cons_succ, List.getElem_cons_zero, List.setIfInBounds_toArray, List.set_cons_succ, List.set_cons_zero]
      refine wpAnyH_done (by kernel_rfl) ?_ _
      go_wp2_with fail
      go_ret3
      exact ⟨_, rfl, SlB.own HF.out, .inr (fun g hg => Nat.le_trans HB2.out.size (HF.out.lt g hg).1), HB2.out.trans (HX.out.mono HB2.out.size)⟩
    refine AllReadyH.cons rfl (fun K hK => ?_) AllReadyH.nil
    refine step_build1 (by rfl) (.tmp 42) (by rfl) (newB u m) (by unfold buV; rw [HTT.out]; rfl) ?_
    rw [HTT.out]
    obtain ⟨W19, hW19⟩ : ∃ W, w2.drew.alloc (.cells T 35) = W := ⟨_, rfl⟩
    have HBW19 := Lib.hid (show Below w2.heap.size w2 W19 by rw [← hW19]; exact HB0.out.alloc HB0.out.size _)
    have HO19 := Lib.hid (show W19.ownsRow w2.heap.size 35 19 (.slice (some ⟨w2.heap.size, 0, none⟩) 1 1) 1 T.toList by rw [← hW19]; exact World.ownsRow_lit (w2.drew) T 1 HB0.out.size (by decide) (by rw [hszT]))
    rw [hW19]
    clear hW19
    refine hK.out _ _ (KS.out _ HBW19.out) (fun hHeld => ?_)
    clear hK K
    try simp only [Act.put, List.getElem_toArray, List.getElem_cons_succ, List.getElem_cons_zero, List.setIfInBounds_toArray, List.set_cons_succ, List.set_cons_zero]
    refine wpAnyH_ready (rs := [0]) (by kernel_rfl) (by simp) ?_
    refine AllReadyH.cons rfl (fun K hK => ?_) AllReadyH.nil
    refine step_build0 (by rfl) (by rfl) ?_
    obtain ⟨W20, hW20⟩ : ∃ W, W19.alloc (.cells #[] 35) = W := ⟨_, rfl⟩
    have HBW20 := Lib.hid (show Below w2.heap.size w2 W20 by rw [← hW20]; exact HBW19.out.alloc HBW19.out.size _)
    have HO20 := Lib.hid (show W20.ownsRow w2.heap.size 35 19 (.slice (some ⟨W19.heap.size, 0, none⟩) 0 0) 0 [] by rw [← hW20]; exact World.ownsRow_made (W19) #[] 0 HBW19.out.size (by decide) rfl)
    have HO19x20 := HO19.out.alloc (.cells #[] 35)
    rw [hW20] at HO19x20
    replace HO19x20 := Lib.hid HO19x20
    rw [hW20]
    clear hW20
    refine hK.out _ _ (KS.out _ HBW20.out) (fun hHeld => ?_)
    clear hK K
    try simp only [Act.put, List.getElem_toArray, List.getElem_cons_succ, List.getElem_cons_zero, List.setIfInBounds_toArray, List.set_cons_succ, List.set_cons_zero]
    refine wpAnyH_ready (rs := [2]) (by kernel_rfl) (by simp) ?_
    refine AllReadyH.cons rfl (fun K hK => ?_) AllReadyH.nil
    refine step_append_srcN (by rfl) _ _ 43 (by rfl) w2.heap.size 35 i35 _ 19 152 Try.underlying43 I35.out Z35.out S35.out B35.out (buArr_size bk0) (by omega) (by rfl) HO20.out (by rfl) (HS.out _ HBW20.out) (flat_one bs n) (by simp only [maxLen]; omega) (by omega) HBW20.out.size ?_
    intro v21 W21 hown21 hgrow21 hblk21
    have HBW21 := Lib.hid (HBW20.out.grown hgrow21 HBW20.out.size (fun k hk => (HO20.out.lt k hk).1))
    have HO21 := Lib.hid hown21
    have HO19x20y21 := Lib.hid (HO19x20.out.kept hgrow21 (.inr (fun e => by have e : w2.heap.size = W19.heap.size := Option.some.inj e; have : w2.heap.size < W19.heap.size := (HO19.out.lt _ rfl).2; omega)))
    clear hown21 hgrow21 hblk21
    refine hK.out _ _ (KS.out _ HBW21.out) (fun hHeld => ?_)
    clear hK K
    try simp only [Act.put, List.getElem_toArray, List.getElem_cons_succ, List.getElem_cons_zero, List.setIfInBounds_toArray, List.set_cons_succ, List.set_cons_zero]
    refine wpAnyH_ready (rs := [7]) (by kernel_rfl) (by simp) ?_
    refine AllReadyH.cons rfl (fun K hK => ?_) AllReadyH.nil
    refine step_append_srcN (by rfl) _ _ 43 (by rfl) w2.heap.size 35 i35 _ 19 152 Try.underlying43 I35.out Z35.out S35.out B35.out (buArr_size bk0) (by omega) (by rfl) HO21.out (by rfl) (SrcN.own HO19x20y21.out) (by intro u hu; have := h35; rw [Array.all_eq_true_iff_forall_mem] at this; exact this u (by simpa using hu)) (by simp only [maxLen]; omega) (by omega) HBW21.out.size ?_
    intro v22 W22 hown22 hgrow22 hblk22
    have HBW22 := Lib.hid (HBW21.out.grown hgrow22 HBW21.out.size (fun k hk => (HO21.out.lt k hk).1))
    have HO22 := Lib.hid hown22
    clear hown22 hgrow22 hblk22
    refine hK.out _ _ (KS.out _ HBW22.out) (fun hHeld => ?_)
    clear hK K
    try simp only [Act.put, List.getElem_toArray, List.getElem_cons_succ, List.getElem_cons_zero, List.setIfInBounds_toArray, List.set_cons_succ, List.set_cons_zero]
    have hf0 := HO22.out
    rw [Nat.zero_add, List.nil_append, ← HTT.out, flat_more] at hf0
    have HF := Lib.hid hf0
    clear hf0
    have HX := Lib.hid HBW22.out
    refine wpAnyH_take (i := 10) (v := ?vz22_10) rfl (by kernel_rfl) (by kernel_rfl) (by kernel_rfl) (fun _ _ _ h => h) (Or.inl ⟨by rfl, ?hyz22_10⟩) (by assumption) ?restz22_10
    case hyz22_10 => (intro w hSw; (try dsimp only at hSw); go_simp) <;> with_reducible rfl
    simp only [Act.put, List.getElem_toArray, List.getElem_cons_succ, List.getElem_cons_zero, List.setIfInBounds_toArray, List.set_cons_succ, List.set_cons_zero]
    refine wpAnyH_take (i := 11) (v := ?vz22_11) rfl (by kernel_rfl) (by kernel_rfl) (by kernel_rfl) (fun _ _ _ h => h) (Or.inl ⟨by rfl, ?hyz22_11⟩) (by assumption) ?restz22_11
    case hyz22_11 => (intro w hSw; (try dsimp only at hSw); go_simp) <;> with_reducible rfl
    simp only [Act.put, List.getElem_toArray, List.getElem_cons_succ, List.getElem_cons_zero, List.setIfInBounds_toArray, List.set_cons_succ, List.set_cons_zero]
    refine wpAnyH_take (i := 12) (v := ?vz22_12) rfl (by kernel_rfl) (by kernel_rfl) (by kernel_rfl) (fun _ _ _ h => h) (Or.inl ⟨by rfl, ?hyz22_12⟩) (by assumption) ?restz22_12
    case hyz22_12 => (intro w hSw; (try dsimp only at hSw); go_simp) <;> with_reducible rfl
    simp only [Act.put, List.getElem_toArray, List.getElem_cons_succ, List.getElem_cons_zero, List.setIfInBounds_toArray, List.set_cons_succ, List.set_cons_zero]
    refine wpAnyH_done (by kernel_rfl) ?_ _
    go_wp2_with fail
    go_ret3
    exact ⟨_, rfl, SlB.own HF.out, .inr (fun g hg => Nat.le_trans HB2.out.size (HF.out.lt g hg).1), HB2.out.trans (HX.out.mono HB2.out.size)⟩
end
end Go.Proofs.Ytmbdhpibkhgkcaa
