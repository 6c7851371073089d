/- The document's Add (package pinfoldref12). No condition. -/
import Derived.Test.YtedhhohnbekelaaTb
namespace Go.Proofs.Ytedhhohnbekelaa
open Go.RowKit Go.Deep

theorem own_low {w : World} {base base' t sz n : Nat} {v : Value} {xs : List Value} (h : w.ownsRow base t sz v n xs) (hb : base' ≤ base) : w.ownsRow base' t sz v n xs := by
  refine ⟨h.1, ?_⟩
  rcases h.2 with hn | ⟨g, cap, cur, rfl, hg, rest⟩
  · exact .inl hn
  · exact .inr ⟨g, cap, cur, rfl, Nat.le_trans hb hg, rest⟩

/-- The document's table has another slice of tasks from now on. -/
theorem IsRef.newL {w w' : World} {rb rs room B n' : Nat} {lv wv v' : Value} {e : Rb} {ts' : Nat → Tk} (h : IsRef w rb rs lv wv room e) (hB : Below w.heap.size w w') (ho : w'.ownsRow B 30 29 v' n' (flat ts' n')) (hb : w.heap.size ≤ B) (hn : n' ≤ room) :
    IsRef (w'.setCell ⟨rb, 1, none⟩ v') rb rs v' wv room ⟨n', ts', e.W⟩ ∧ Frm (RefS rb lv) w (w'.setCell ⟨rb, 1, none⟩ v') := by
  have h' := h.below hB
  have hlow := h.low
  refine ⟨⟨(h'.top.set 1 v').congr fun o ho => ?_, ?_, ?_, by simpa using h'.low, fun g hg hw => ?_, hn, h.most.2⟩, ?_⟩
  · match o, ho with
    | 0, _ => rfl
    | 1, _ => rfl
    | 2, _ => rfl
  · refine own_of_heap (own_low ho (by omega)) fun k hk => Below.heap_setCell _ _ _ _ (by have := (ho.lt k hk).1; simp only []; omega)
  · exact own_of_heap h'.wts fun k hk => Below.heap_setCell _ _ _ _ (by have := (h'.wts.lt k hk).1; simp only []; omega)
  · have h1 := (ho.lt g hg).1
    have h2 := (h.wts.lt g hw).2
    omega
  · exact (Frm.ofBelow hB).setCell (p := ⟨rb, 1, none⟩) (fun _ => .inl rfl) v'

def RAddTo (w : World) (rb rs : Nat) (lv wv : Value) (room : Nat) (e : Rb) (t : Tk) (r : Ending) (w' : World) : Prop :=
  r = .returned (.tuple #[.int .i64 e.n, .int .i64 0]) ∧ ∃ lv', IsRef w' rb rs lv' wv room ⟨e.n + 1, updT e.ts e.n t, e.W⟩ ∧ Frm (RefS rb lv) w w' ∧ ∃ g, w.heap.size ≤ g ∧ lv'.ownBlock = some g

set_option maxRecDepth 100000 in
set_option maxHeartbeats 2000000 in
theorem RAdd_yes {w : World} {rb rs room : Nat} {lv wv : Value} {e : Rb} (h : IsRef w rb rs lv wv room e) (t : Tk) (hm : may t = true) (hn : e.n < room) :
    Calls Try.prog 31 #[.pointer (some ⟨rb, 0, none⟩), tkV t] w (RAddTo w rb rs lv wv room e t) := by
  have HM := Lib.hid (fun w => refMay_any t w)
  rw [hm] at HM
  have h1 := size30 t
  have h29 := one30 t
  have hsz := tkArr_size t
  have HT := Lib.hid (h.alloc (.cells (tkArr t) 30))
  have hmost := h.most
  obtain ⟨av, cap, hlv, -⟩ := h.lvForm
  have HLV := Lib.hid hlv
  have HR0 := Lib.hid h
  obtain ⟨n, ts, Ws⟩ := e
  simp only at hn hmost hlv
  have hge : ¬ (room : Int) ≤ n := by omega
  subst hlv
  obtain ⟨V, hV⟩ : ∃ V, V = tkArr t := ⟨_, rfl⟩
  have HVV := Lib.hid hV
  rw [← hV] at h1 HT hsz h29
  unfold tkV at HM ⊢
  rw [← hV] at HM ⊢
  obtain ⟨i30, I30, Z30, S30, B30⟩ := info_parts Try.info30
  have I30 := Lib.hid I30
  have Z30 := Lib.hid Z30
  have S30 := Lib.hid S30
  have B30 := Lib.hid B30
  clear h hV hm HLV
  go_enter Try.func31, Try.ntmps31
  go_wp2_with (refine wpList_load_row rfl 30 _ rfl w.heap.size rfl 30 V (0, 0) _ (heap_alloc_new _ _) Try.underlying30 rfl h1 ?_)
  refine (HM.out _).mono ?_
  rintro r w2 ⟨rfl, hb2⟩
  have HT2 := Lib.hid (HT.out.below hb2)
  have hA2 : w2.heap[w.heap.size]? = some (.cells V 30 (0, 0)) := (hb2.block w.heap.size (by simp)).trans (heap_alloc_new w _)
  have HA2 := Lib.hid hA2
  have HBA := Lib.hid (show Below w.heap.size w w2 from ((Below.refl w.heap.size w).alloc (Nat.le_refl _) (.cells V 30)).trans (hb2.mono (by simp)))
  have c0 := HT2.out.c0
  have c1 := HT2.out.c1
  clear hb2 hA2 HM HT
  go_wp2_with fail
  go_region
  go_upto_region 5 with fail
  obtain ⟨w3, hw3⟩ : ∃ w3, w2.drew = w3 := ⟨_, rfl⟩
  have HT3 := Lib.hid (show IsRef w3 rb rs (.slice av n cap) wv room ⟨n, ts, Ws⟩ by rw [← hw3]; exact HT2.out.drewN 1)
  have HA3 := Lib.hid (show w3.heap[w.heap.size]? = some (.cells V 30 (0, 0)) by rw [← hw3]; exact HA2.out)
  have HBA3 := Lib.hid (show Below w.heap.size w w3 by rw [← hw3]; exact Below.drewN HBA.out 1)
  rw [hw3]
  clear hw3 HT2 HA2 HBA
  obtain ⟨A, hA⟩ : ∃ A, w.heap.size = A := ⟨_, rfl⟩
  rw [hA] at HA3
  rw [hA]
  have HAA := Lib.hid hA
  clear hA c0
  have hA3 : A < w3.heap.size := (Array.getElem?_eq_some_iff.1 HA3.out).1
  have KS := Lib.hid (fun (w' : World) (hb : Below w3.heap.size w3 w') => show Below w3.heap.size w3 w' ∧ w'.cell? ⟨rb, 1, none⟩ = some (.slice av n cap) ∧ w'.heap[A]? = some (.cells V 30 (0, 0)) from
    ⟨hb, (hb.cell (p := ⟨rb, 1, none⟩) HT3.out.top.lt).trans HT3.out.c1, (hb.block A hA3).trans HA3.out⟩)
  have HS := Lib.hid (fun (w' : World) (hb : Below w3.heap.size w3 w') => show SrcN w' (.slice av n cap) n 29 (flat ts n) from (SrcN.own HT3.out.own).below hb)
  clear c1
  refine wp_region_cut_held (fun w' => Below w3.heap.size w3 w' ∧ w'.cell? ⟨rb, 1, none⟩ = some (.slice av n cap) ∧ w'.heap[A]? = some (.cells V 30 (0, 0))) 12 (by kernel_rfl) (by kernel_rfl) (KS.out _ (Below.refl _ _).drew) (fun hHeld => ?_)
  simp only [List.take_succ_cons, List.take_zero]
  refine wpAnyH_take (i := 0) (v := ?va0) rfl (by kernel_rfl) (by kernel_rfl) (by kernel_rfl) (fun _ _ _ h => h) (Or.inl ⟨by rfl, ?hya0⟩) (by assumption) ?resta0
  case hya0 => (intro w hSw; (try dsimp only at hSw); go_simp) <;> with_reducible rfl
  simp only [Act.put, List.getElem_toArray, List.getElem_cons_succ, List.getElem_cons_zero, List.setIfInBounds_toArray, List.set_cons_succ, List.set_cons_zero]
  refine wpAnyH_take (i := 2) (v := ?va2) rfl (by kernel_rfl) (by kernel_rfl) (by kernel_rfl) (fun _ _ _ h => h) (Or.inl ⟨by rfl, ?hya2⟩) (by assumption) ?resta2
  case hya2 => (intro w hSw; (try dsimp only at hSw); go_simp) <;> with_reducible rfl
  simp only [Act.put, List.getElem_toArray, List.getElem_cons_succ, List.getElem_cons_zero, List.setIfInBounds_toArray, List.set_cons_succ, List.set_cons_zero]
  refine wpAnyH_take (i := 3) (v := ?va3) rfl (by kernel_rfl) (by kernel_rfl) (by kernel_rfl) (fun _ _ _ h => h) (Or.inl ⟨by rfl, ?hya3⟩) (by assumption) ?resta3
  case hya3 => (intro w hSw; (try dsimp only at hSw); go_simp) <;> with_reducible rfl
  simp only [Act.put, List.getElem_toArray, List.getElem_cons_succ, List.getElem_cons_zero, List.setIfInBounds_toArray, List.set_cons_succ, List.set_cons_zero]
  refine wpAnyH_take (i := 4) (v := ?va4) rfl (by kernel_rfl) (by kernel_rfl) (by kernel_rfl) (fun _ _ _ h => h) (Or.inl ⟨by rfl, ?hya4⟩) (by assumption) ?resta4
  case hya4 => (intro w hSw; (try dsimp only at hSw); go_simp) <;> with_reducible rfl
  simp only [Act.put, List.getElem_toArray, List.getElem_cons_succ, List.getElem_cons_zero, List.setIfInBounds_toArray, List.set_cons_succ, List.set_cons_zero]
  refine wpAnyH_take (i := 5) (v := ?va5) rfl (by kernel_rfl) (by kernel_rfl) (by kernel_rfl) (fun _ _ _ h => h) (Or.inl ⟨by rfl, ?hya5⟩) (by assumption) ?resta5
  case hya5 => (intro w hSw; (try dsimp only at hSw); go_simp) <;> with_reducible rfl
  simp only [Act.put, List.getElem_toArray, List.getElem_cons_succ, List.getElem_cons_zero, List.setIfInBounds_toArray, List.set_cons_succ, List.set_cons_zero]
  refine wpAnyH_take (i := 7) (v := .agg V) rfl (by kernel_rfl) (by kernel_rfl) (by kernel_rfl) (fun _ _ _ h => h) (Or.inl ⟨by rfl, ?hyld⟩) (by assumption) ?restld
  case hyld =>
    intro w hSw
    exact yields30 (.tmp 3) rfl A rfl hSw.2.2 h1
  simp only [Act.put, List.getElem_toArray, List.getElem_cons_succ, List.getElem_cons_zero, List.setIfInBounds_toArray, List.set_cons_succ, List.set_cons_zero]
  have HB0 := Lib.hid ((Below.refl w3.heap.size w3).drew)
  refine wpAnyH_ready (rs := [1, 8]) (by kernel_rfl) (by simp) ?_
  refine AllReadyH.cons rfl (fun K hK => ?_) ?_
  · refine step_build0 (by rfl) (by rfl) ?_
    obtain ⟨W1, hW1⟩ : ∃ W, w3.drew.alloc (.cells #[] 30) = W := ⟨_, rfl⟩
    have HBW1 := Lib.hid (show Below w3.heap.size w3 W1 by rw [← hW1]; exact HB0.out.alloc HB0.out.size _)
    have HO1 := Lib.hid (show W1.ownsRow w3.heap.size 30 29 (.slice (some ⟨w3.heap.size, 0, none⟩) 0 0) 0 [] by rw [← hW1]; exact World.ownsRow_made (w3.drew) #[] 0 HB0.out.size (by decide) rfl)
    rw [hW1]
    clear hW1
    refine hK.out _ _ (KS.out _ HBW1.out) (fun hHeld => ?_)
    clear hK K
    try simp only [Act.put, List.getElem_toArray, List.getElem_cons_succ, List.getElem_cons_zero, List.setIfInBounds_toArray, List.set_cons_succ, List.set_cons_zero]
    refine wpAnyH_ready (rs := [6, 8]) (by kernel_rfl) (by simp) ?_
    refine AllReadyH.cons rfl (fun K hK => ?_) ?_
    · refine step_append_srcN (by rfl) _ _ 47 (by rfl) w3.heap.size 30 i30 _ 29 216 Try.underlying47 I30.out Z30.out S30.out B30.out (tkArr_size tk0) (by omega) (by rfl) HO1.out (by rfl) (HS.out _ HBW1.out) (flat_one ts n) (by simp only [maxLen]; omega) (by omega) HBW1.out.size ?_
      intro v2 W2 hown2 hgrow2 hblk2
      have HBW2 := Lib.hid (HBW1.out.grown hgrow2 HBW1.out.size (fun k hk => (HO1.out.lt k hk).1))
      have HO2 := Lib.hid hown2
      clear hown2 hgrow2 hblk2
      refine hK.out _ _ (KS.out _ HBW2.out) (fun hHeld => ?_)
      clear hK K
      try simp only [Act.put, List.getElem_toArray, List.getElem_cons_succ, List.getElem_cons_zero, List.setIfInBounds_toArray, List.set_cons_succ, List.set_cons_zero]
      refine wpAnyH_ready (rs := [8]) (by kernel_rfl) (by simp) ?_
      refine AllReadyH.cons rfl (fun K hK => ?_) AllReadyH.nil
      refine step_build1 (by rfl) (.tmp 26) (by rfl) t (by unfold tkV; rw [← HVV.out]; rfl) ?_
      rw [← HVV.out]
      obtain ⟨W3, hW3⟩ : ∃ W, W2.alloc (.cells V 30) = W := ⟨_, rfl⟩
      have HBW3 := Lib.hid (show Below w3.heap.size w3 W3 by rw [← hW3]; exact HBW2.out.alloc HBW2.out.size _)
      have HO3 := Lib.hid (show W3.ownsRow w3.heap.size 30 29 (.slice (some ⟨W2.heap.size, 0, none⟩) 1 1) 1 V.toList by rw [← hW3]; exact World.ownsRow_lit (W2) V 1 HBW2.out.size (by decide) (by rw [hsz]))
      have HO2x3 := HO2.out.alloc (.cells V 30)
      rw [hW3] at HO2x3
      replace HO2x3 := Lib.hid HO2x3
      rw [hW3]
      clear hW3
      refine hK.out _ _ (KS.out _ HBW3.out) (fun hHeld => ?_)
      clear hK K
      try simp only [Act.put, List.getElem_toArray, List.getElem_cons_succ, List.getElem_cons_zero, List.setIfInBounds_toArray, List.set_cons_succ, List.set_cons_zero]
      refine wpAnyH_ready (rs := [9]) (by kernel_rfl) (by simp) ?_
      refine AllReadyH.cons rfl (fun K hK => ?_) AllReadyH.nil
      refine step_append_srcN (by rfl) _ _ 47 (by rfl) w3.heap.size 30 i30 _ 29 216 Try.underlying47 I30.out Z30.out S30.out B30.out (tkArr_size tk0) (by omega) (by rfl) HO2x3.out (by rfl) (SrcN.own HO3.out) (by intro u hu; have := h29; rw [Array.all_eq_true_iff_forall_mem] at this; exact this u (by simpa using hu)) (by simp only [maxLen]; omega) (by omega) HBW3.out.size ?_
      intro v4 W4 hown4 hgrow4 hblk4
      have HBW4 := Lib.hid (HBW3.out.grown hgrow4 HBW3.out.size (fun k hk => (HO2x3.out.lt k hk).1))
      have HO4 := Lib.hid hown4
      clear hown4 hgrow4 hblk4
      refine hK.out _ _ (KS.out _ HBW4.out) (fun hHeld => ?_)
      clear hK K
      try simp only [Act.put, List.getElem_toArray, List.getElem_cons_succ, List.getElem_cons_zero, List.setIfInBounds_toArray, List.set_cons_succ, List.set_cons_zero]
      have hf0 := HO4.out
      rw [Nat.zero_add, List.nil_append, HVV.out, flat_more] at hf0
      have HF := Lib.hid hf0
      clear hf0
      have HX := Lib.hid HBW4.out
      have HNEW := Lib.hid (HT3.out.newL HX.out HF.out (Nat.le_refl _) (show n + 1 ≤ room by omega))
      have HLB := Lib.hid HF.out.lt
      have fB : W4.frozen? ⟨rb, 1, none⟩ = false := (World.frozen?_of_block (a := ⟨rb, 1, none⟩) (HX.out.block rb HT3.out.top.lt)).trans (HT3.out.top.frozen 1)
      have cB := (KS.out _ HX.out).2.1
      obtain ⟨gF, capF, hvF⟩ := ownsRow_succ HF.out
      subst hvF
      refine wpAnyH_take (i := 10) (v := ?vz4_10) rfl (by kernel_rfl) (by kernel_rfl) (by kernel_rfl) (fun _ _ _ h => h) (Or.inl ⟨by rfl, ?hyz4_10⟩) (by assumption) ?restz4_10
      case hyz4_10 => (intro w hSw; (try dsimp only at hSw); go_simp) <;> with_reducible rfl
      simp only [Act.put, List.getElem_toArray, List.getElem_cons_succ, List.getElem_cons_zero, List.setIfInBounds_toArray, List.set_cons_succ, List.set_cons_zero]
      refine wpAnyH_take (i := 11) (v := ?vz4_11) rfl (by kernel_rfl) (by kernel_rfl) (by kernel_rfl) (fun _ _ _ h => h) (Or.inl ⟨by rfl, ?hyz4_11⟩) (by assumption) ?restz4_11
      case hyz4_11 => (intro w hSw; (try dsimp only at hSw); go_simp) <;> with_reducible rfl
      simp only [Act.put, List.getElem_toArray, List.getElem_cons_succ, List.getElem_cons_zero, List.setIfInBounds_toArray, List.set_cons_succ, List.set_cons_zero]
      refine wpAnyH_done (by kernel_rfl) ?_ _
      simp only [headPost, List.drop_succ_cons, List.drop_zero]
      go_wp2_with fail
      go_ret2
      refine ⟨by first | rfl | (simp; done) | (simp; omega), _, HNEW.out.1, (Frm.ofBelow HBA3.out).trans (HNEW.out.2.mono fun k hk hs => ?_), gF, ?_, rfl⟩
      · exact hs
      · have h1 := HLB.out gF rfl
        have h2 := HBA3.out.size
        omega
    refine AllReadyH.cons rfl (fun K hK => ?_) AllReadyH.nil
    refine step_build1 (by rfl) (.tmp 26) (by rfl) t (by unfold tkV; rw [← HVV.out]; rfl) ?_
    rw [← HVV.out]
    obtain ⟨W5, hW5⟩ : ∃ W, W1.alloc (.cells V 30) = W := ⟨_, rfl⟩
    have HBW5 := Lib.hid (show Below w3.heap.size w3 W5 by rw [← hW5]; exact HBW1.out.alloc HBW1.out.size _)
    have HO5 := Lib.hid (show W5.ownsRow w3.heap.size 30 29 (.slice (some ⟨W1.heap.size, 0, none⟩) 1 1) 1 V.toList by rw [← hW5]; exact World.ownsRow_lit (W1) V 1 HBW1.out.size (by decide) (by rw [hsz]))
    have HO1x5 := HO1.out.alloc (.cells V 30)
    rw [hW5] at HO1x5
    replace HO1x5 := Lib.hid HO1x5
    rw [hW5]
    clear hW5
    refine hK.out _ _ (KS.out _ HBW5.out) (fun hHeld => ?_)
    clear hK K
    try simp only [Act.put, List.getElem_toArray, List.getElem_cons_succ, List.getElem_cons_zero, List.setIfInBounds_toArray, List.set_cons_succ, List.set_cons_zero]
    refine wpAnyH_ready (rs := [6]) (by kernel_rfl) (by simp) ?_
    refine AllReadyH.cons rfl (fun K hK => ?_) AllReadyH.nil
    refine step_append_srcN (by rfl) _ _ 47 (by rfl) w3.heap.size 30 i30 _ 29 216 Try.underlying47 I30.out Z30.out S30.out B30.out (tkArr_size tk0) (by omega) (by rfl) HO1x5.out (by rfl) (HS.out _ HBW5.out) (flat_one ts n) (by simp only [maxLen]; omega) (by omega) HBW5.out.size ?_
    intro v6 W6 hown6 hgrow6 hblk6
    have HBW6 := Lib.hid (HBW5.out.grown hgrow6 HBW5.out.size (fun k hk => (HO1x5.out.lt k hk).1))
    have HO6 := Lib.hid hown6
    have HO5y6 := Lib.hid (HO5.out.kept hgrow6 (.inr (fun e => by have e : W1.heap.size = w3.heap.size := Option.some.inj e; have : w3.heap.size < W1.heap.size := (HO1.out.lt _ rfl).2; omega)))
    clear hown6 hgrow6 hblk6
    refine hK.out _ _ (KS.out _ HBW6.out) (fun hHeld => ?_)
    clear hK K
    try simp only [Act.put, List.getElem_toArray, List.getElem_cons_succ, List.getElem_cons_zero, List.setIfInBounds_toArray, List.set_cons_succ, List.set_cons_zero]
    refine wpAnyH_ready (rs := [9]) (by kernel_rfl) (by simp) ?_
    refine AllReadyH.cons rfl (fun K hK => ?_) AllReadyH.nil
    refine step_append_srcN (by rfl) _ _ 47 (by rfl) w3.heap.size 30 i30 _ 29 216 Try.underlying47 I30.out Z30.out S30.out B30.out (tkArr_size tk0) (by omega) (by rfl) HO6.out (by rfl) (SrcN.own HO5y6.out) (by intro u hu; have := h29; rw [Array.all_eq_true_iff_forall_mem] at this; exact this u (by simpa using hu)) (by simp only [maxLen]; omega) (by omega) HBW6.out.size ?_
    intro v7 W7 hown7 hgrow7 hblk7
    have HBW7 := Lib.hid (HBW6.out.grown hgrow7 HBW6.out.size (fun k hk => (HO6.out.lt k hk).1))
    have HO7 := Lib.hid hown7
    clear hown7 hgrow7 hblk7
    refine hK.out _ _ (KS.out _ HBW7.out) (fun hHeld => ?_)
    clear hK K
    try simp only [Act.put, List.getElem_toArray, List.getElem_cons_succ, List.getElem_cons_zero, List.setIfInBounds_toArray, List.set_cons_succ, List.set_cons_zero]
    have hf0 := HO7.out
    rw [Nat.zero_add, List.nil_append, HVV.out, flat_more] at hf0
    have HF := Lib.hid hf0
    clear hf0
    have HX := Lib.hid HBW7.out
    have HNEW := Lib.hid (HT3.out.newL HX.out HF.out (Nat.le_refl _) (show n + 1 ≤ room by omega))
    have HLB := Lib.hid HF.out.lt
    have fB : W7.frozen? ⟨rb, 1, none⟩ = false := (World.frozen?_of_block (a := ⟨rb, 1, none⟩) (HX.out.block rb HT3.out.top.lt)).trans (HT3.out.top.frozen 1)
    have cB := (KS.out _ HX.out).2.1
    obtain ⟨gF, capF, hvF⟩ := ownsRow_succ HF.out
    subst hvF
    refine wpAnyH_take (i := 10) (v := ?vz7_10) rfl (by kernel_rfl) (by kernel_rfl) (by kernel_rfl) (fun _ _ _ h => h) (Or.inl ⟨by rfl, ?hyz7_10⟩) (by assumption) ?restz7_10
    case hyz7_10 => (intro w hSw; (try dsimp only at hSw); go_simp) <;> with_reducible rfl
    simp only [Act.put, List.getElem_toArray, List.getElem_cons_succ, List.getElem_cons_zero, List.setIfInBounds_toArray, List.set_cons_succ, List.set_cons_zero]
    refine wpAnyH_take (i := 11) (v := ?vz7_11) rfl (by kernel_rfl) (by kernel_rfl) (by kernel_rfl) (fun _ _ _ h => h) (Or.inl ⟨by rfl, ?hyz7_11⟩) (by assumption) ?restz7_11
    case hyz7_11 => (intro w hSw; (try dsimp only at hSw); go_simp) <;> with_reducible rfl
    simp only [Act.put, List.getElem_toArray, List.getElem_cons_succ, List.getElem_cons_zero, List.setIfInBounds_toArray, List.set_cons_succ, List.set_cons_zero]
    refine wpAnyH_done (by kernel_rfl) ?_ _
    simp only [headPost, List.drop_succ_cons, List.drop_zero]
    go_wp2_with fail
    go_ret2
    refine ⟨by first | rfl | (simp; done) | (simp; omega), _, HNEW.out.1, (Frm.ofBelow HBA3.out).trans (HNEW.out.2.mono fun k hk hs => ?_), gF, ?_, rfl⟩
    · exact hs
    · have h1 := HLB.out gF rfl
      have h2 := HBA3.out.size
      omega
  refine AllReadyH.cons rfl (fun K hK => ?_) AllReadyH.nil
  refine step_build1 (by rfl) (.tmp 26) (by rfl) t (by unfold tkV; rw [← HVV.out]; rfl) ?_
  rw [← HVV.out]
  obtain ⟨W8, hW8⟩ : ∃ W, w3.drew.alloc (.cells V 30) = W := ⟨_, rfl⟩
  have HBW8 := Lib.hid (show Below w3.heap.size w3 W8 by rw [← hW8]; exact HB0.out.alloc HB0.out.size _)
  have HO8 := Lib.hid (show W8.ownsRow w3.heap.size 30 29 (.slice (some ⟨w3.heap.size, 0, none⟩) 1 1) 1 V.toList by rw [← hW8]; exact World.ownsRow_lit (w3.drew) V 1 HB0.out.size (by decide) (by rw [hsz]))
  rw [hW8]
  clear hW8
  refine hK.out _ _ (KS.out _ HBW8.out) (fun hHeld => ?_)
  clear hK K
  try simp only [Act.put, List.getElem_toArray, List.getElem_cons_succ, List.getElem_cons_zero, List.setIfInBounds_toArray, List.set_cons_succ, List.set_cons_zero]
  refine wpAnyH_ready (rs := [1]) (by kernel_rfl) (by simp) ?_
  refine AllReadyH.cons rfl (fun K hK => ?_) AllReadyH.nil
  refine step_build0 (by rfl) (by rfl) ?_
  obtain ⟨W9, hW9⟩ : ∃ W, W8.alloc (.cells #[] 30) = W := ⟨_, rfl⟩
  have HBW9 := Lib.hid (show Below w3.heap.size w3 W9 by rw [← hW9]; exact HBW8.out.alloc HBW8.out.size _)
  have HO9 := Lib.hid (show W9.ownsRow w3.heap.size 30 29 (.slice (some ⟨W8.heap.size, 0, none⟩) 0 0) 0 [] by rw [← hW9]; exact World.ownsRow_made (W8) #[] 0 HBW8.out.size (by decide) rfl)
  have HO8x9 := HO8.out.alloc (.cells #[] 30)
  rw [hW9] at HO8x9
  replace HO8x9 := Lib.hid HO8x9
  rw [hW9]
  clear hW9
  refine hK.out _ _ (KS.out _ HBW9.out) (fun hHeld => ?_)
  clear hK K
  try simp only [Act.put, List.getElem_toArray, List.getElem_cons_succ, List.getElem_cons_zero, List.setIfInBounds_toArray, List.set_cons_succ, List.set_cons_zero]
  refine wpAnyH_ready (rs := [6]) (by kernel_rfl) (by simp) ?_
  refine AllReadyH.cons rfl (fun K hK => ?_) AllReadyH.nil
  refine step_append_srcN (by rfl) _ _ 47 (by rfl) w3.heap.size 30 i30 _ 29 216 Try.underlying47 I30.out Z30.out S30.out B30.out (tkArr_size tk0) (by omega) (by rfl) HO9.out (by rfl) (HS.out _ HBW9.out) (flat_one ts n) (by simp only [maxLen]; omega) (by omega) HBW9.out.size ?_
  intro v10 W10 hown10 hgrow10 hblk10
  have HBW10 := Lib.hid (HBW9.out.grown hgrow10 HBW9.out.size (fun k hk => (HO9.out.lt k hk).1))
  have HO10 := Lib.hid hown10
  have HO8x9y10 := Lib.hid (HO8x9.out.kept hgrow10 (.inr (fun e => by have e : w3.heap.size = W8.heap.size := Option.some.inj e; have : w3.heap.size < W8.heap.size := (HO8.out.lt _ rfl).2; omega)))
  clear hown10 hgrow10 hblk10
  refine hK.out _ _ (KS.out _ HBW10.out) (fun hHeld => ?_)
  clear hK K
  try simp only [Act.put, List.getElem_toArray, List.getElem_cons_succ, List.getElem_cons_zero, List.setIfInBounds_toArray, List.set_cons_succ, List.set_cons_zero]
  refine wpAnyH_ready (rs := [9]) (by kernel_rfl) (by simp) ?_
  refine AllReadyH.cons rfl (fun K hK => ?_) AllReadyH.nil
  refine step_append_srcN (by rfl) _ _ 47 (by rfl) w3.heap.size 30 i30 _ 29 216 Try.underlying47 I30.out Z30.out S30.out B30.out (tkArr_size tk0) (by omega) (by rfl) HO10.out (by rfl) (SrcN.own HO8x9y10.out) (by intro u hu; have := h29; rw [Array.all_eq_true_iff_forall_mem] at this; exact this u (by simpa using hu)) (by simp only [maxLen]; omega) (by omega) HBW10.out.size ?_
  intro v11 W11 hown11 hgrow11 hblk11
  have HBW11 := Lib.hid (HBW10.out.grown hgrow11 HBW10.out.size (fun k hk => (HO10.out.lt k hk).1))
  have HO11 := Lib.hid hown11
  clear hown11 hgrow11 hblk11
  refine hK.out _ _ (KS.out _ HBW11.out) (fun hHeld => ?_)
  clear hK K
  try simp only [Act.put, List.getElem_toArray, List.getElem_cons_succ, List.getElem_cons_zero, List.setIfInBounds_toArray, List.set_cons_succ, List.set_cons_zero]
  have hf0 := HO11.out
  rw [Nat.zero_add, List.nil_append, HVV.out, flat_more] at hf0
  have HF := Lib.hid hf0
  clear hf0
  have HX := Lib.hid HBW11.out
  have HNEW := Lib.hid (HT3.out.newL HX.out HF.out (Nat.le_refl _) (show n + 1 ≤ room by omega))
  have HLB := Lib.hid HF.out.lt
  have fB : W11.frozen? ⟨rb, 1, none⟩ = false := (World.frozen?_of_block (a := ⟨rb, 1, none⟩) (HX.out.block rb HT3.out.top.lt)).trans (HT3.out.top.frozen 1)
  have cB := (KS.out _ HX.out).2.1
  obtain ⟨gF, capF, hvF⟩ := ownsRow_succ HF.out
  subst hvF
  refine wpAnyH_take (i := 10) (v := ?vz11_10) rfl (by kernel_rfl) (by kernel_rfl) (by kernel_rfl) (fun _ _ _ h => h) (Or.inl ⟨by rfl, ?hyz11_10⟩) (by assumption) ?restz11_10
  case hyz11_10 => (intro w hSw; (try dsimp only at hSw); go_simp) <;> with_reducible rfl
  simp only [Act.put, List.getElem_toArray, List.getElem_cons_succ, List.getElem_cons_zero, List.setIfInBounds_toArray, List.set_cons_succ, List.set_cons_zero]
  refine wpAnyH_take (i := 11) (v := ?vz11_11) rfl (by kernel_rfl) (by kernel_rfl) (by kernel_rfl) (fun _ _ _ h => h) (Or.inl ⟨by rfl, ?hyz11_11⟩) (by assumption) ?restz11_11
  case hyz11_11 => (intro w hSw; (try dsimp only at hSw); go_simp) <;> with_reducible rfl
  simp only [Act.put, List.getElem_toArray, List.getElem_cons_succ, List.getElem_cons_zero, List.setIfInBounds_toArray, List.set_cons_succ, List.set_cons_zero]
  refine wpAnyH_done (by kernel_rfl) ?_ _
  simp only [headPost, List.drop_succ_cons, List.drop_zero]
  go_wp2_with fail
  go_ret2
  refine ⟨by first | rfl | (simp; done) | (simp; omega), _, HNEW.out.1, (Frm.ofBelow HBA3.out).trans (HNEW.out.2.mono fun k hk hs => ?_), gF, ?_, rfl⟩
  · exact hs
  · have h1 := HLB.out gF rfl
    have h2 := HBA3.out.size
    omega

section
variable {w w' : World} {rb rs room : Nat} {lv wv : Value} {e : Rb}

set_option maxRecDepth 100000 in
theorem RAdd_arg (_h : IsRef w rb rs lv wv room e) (t : Tk) (hm : may t = false) : Calls Try.prog 31 #[.pointer (some ⟨rb, 0, none⟩), tkV t] w fun r w' => r = .returned (.tuple #[.int .i64 0, .int .i64 1]) ∧ Below w.heap.size w w' := by
  have HM := Lib.hid (fun w => refMay_any t w)
  rw [hm] at HM
  have h1 := size30 t
  obtain ⟨V, hV⟩ : ∃ V, V = tkArr t := ⟨_, rfl⟩
  rw [← hV] at h1
  unfold tkV at HM ⊢
  rw [← hV] at HM ⊢
  have HB := Lib.hid ((Below.refl w.heap.size w).alloc (Nat.le_refl _) (.cells V 30))
  clear hV hm
  go_enter Try.func31, Try.ntmps31
  go_wp2_with (refine wpList_load_row rfl 30 _ rfl w.heap.size rfl 30 V (0, 0) _ (heap_alloc_new _ _) Try.underlying30 rfl h1 ?_)
  refine (HM.out _).mono ?_
  rintro r w2 ⟨rfl, hb2⟩
  have HB2 := Lib.hid (HB.out.trans (hb2.mono HB.out.size))
  clear hb2 HM HB
  go_wp2_with fail
  go_ret2
  exact ⟨rfl, HB2.out⟩

set_option maxRecDepth 100000 in
theorem RAdd_full (h : IsRef w rb rs lv wv room e) (t : Tk) (hm : may t = true) (hn : room ≤ e.n) : Calls Try.prog 31 #[.pointer (some ⟨rb, 0, none⟩), tkV t] w fun r w' => r = .returned (.tuple #[.int .i64 0, .int .i64 4]) ∧ Below w.heap.size w w' := by
  have HM := Lib.hid (fun w => refMay_any t w)
  rw [hm] at HM
  have h1 := size30 t
  have HT := Lib.hid (h.alloc (.cells (tkArr t) 30))
  have hmost := h.most
  obtain ⟨av, cap, hlv, -⟩ := h.lvForm
  obtain ⟨n, ts, Ws⟩ := e
  simp only at hn hmost hlv
  have hge : (room : Int) ≤ n := by omega
  subst hlv
  obtain ⟨V, hV⟩ : ∃ V, V = tkArr t := ⟨_, rfl⟩
  rw [← hV] at h1 HT
  unfold tkV at HM ⊢
  rw [← hV] at HM ⊢
  have HB := Lib.hid ((Below.refl w.heap.size w).alloc (Nat.le_refl _) (.cells V 30))
  clear hV hm h
  go_enter Try.func31, Try.ntmps31
  go_wp2_with (refine wpList_load_row rfl 30 _ rfl w.heap.size rfl 30 V (0, 0) _ (heap_alloc_new _ _) Try.underlying30 rfl h1 ?_)
  refine (HM.out _).mono ?_
  rintro r w2 ⟨rfl, hb2⟩
  have HT2 := Lib.hid (HT.out.below hb2)
  have HB2 := Lib.hid (HB.out.trans (hb2.mono HB.out.size))
  have c0 := HT2.out.c0
  have c1 := HT2.out.c1
  clear hb2 HM HB HT
  go_wp2_with fail
  go_region
  go_wp2_with fail
  go_ret2
  exact ⟨rfl, Below.drewN HB2.out 1⟩

/-- Add, whatever it answers. -/
theorem RAdd_any (h : IsRef w rb rs lv wv room e) (t : Tk) : Calls Try.prog 31 #[.pointer (some ⟨rb, 0, none⟩), tkV t] w
    fun r w' => r = .returned (.tuple #[.int .i64 (addD e.n room e.ts t).1, .int .i64 (addD e.n room e.ts t).2.1]) ∧ ∃ lv', IsRef w' rb rs lv' wv room ⟨(addD e.n room e.ts t).2.2.1, (addD e.n room e.ts t).2.2.2, e.W⟩ ∧ Frm (RefS rb lv) w w' ∧ (lv'.ownBlock = lv.ownBlock ∨ ∃ g, w.heap.size ≤ g ∧ lv'.ownBlock = some g) := by
  unfold addD
  cases hm : may t with
  | false =>
    rw [if_pos rfl]
    refine (RAdd_arg h t hm).mono ?_
    rintro r w' ⟨rfl, hb⟩
    exact ⟨rfl, lv, h.below hb, Frm.ofBelow hb, .inl rfl⟩
  | true =>
    rw [if_neg (by simp)]
    by_cases hn : room ≤ e.n
    · rw [if_pos hn]
      refine (RAdd_full h t hm hn).mono ?_
      rintro r w' ⟨rfl, hb⟩
      exact ⟨rfl, lv, h.below hb, Frm.ofBelow hb, .inl rfl⟩
    · rw [if_neg hn]
      refine (RAdd_yes h t hm (by omega)).mono ?_
      rintro r w' ⟨rfl, lv', hT, hF, hb⟩
      exact ⟨rfl, lv', hT, hF, .inr hb⟩
end
end Go.Proofs.Ytedhhohnbekelaa
