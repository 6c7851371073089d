/- The document's Set (package pinfoldref12). No condition. -/
import Derived.Test.YtedhhohnbekelaaTc
namespace Go.Proofs.Ytedhhohnbekelaa
open Go.RowKit Go.Deep

section
variable {w w' : World} {rb rs room : Nat} {lv wv : Value} {e : Rb}

/-- A task is written anew. -/
theorem IsRef.wrote {g cap : Nat} (h : IsRef w rb rs (.slice (some ⟨g, 0, none⟩) e.n cap) wv room e) {i : Nat} (hi : i < e.n) (t : Tk) :
    IsRef (w.setCells g (i * 29) (tkArr t).toList) rb rs (.slice (some ⟨g, 0, none⟩) e.n cap) wv room ⟨e.n, updT e.ts i t, e.W⟩ ∧ Frm (RefS rb (.slice (some ⟨g, 0, none⟩) e.n cap)) w (w.setCells g (i * 29) (tkArr t).toList) := by
  have ho := own_setCells (tkArr t).toList (i * 29) w (flat e.ts e.n) h.own
  rw [flat_set e.ts hi t] at ho
  have hF : ∀ (vs : List Value) (o : Nat) (a : World), Frm (fun k => k = g) a (a.setCells g o vs) := by
    intro vs
    induction vs with
    | nil => exact fun o a => Frm.refl _ _
    | cons v vs ih => exact fun o a => ((Frm.refl (fun k => k = g) a).setCell (p := ⟨g, o, none⟩) (fun _ => rfl) v).trans (ih (o + 1) _)
  have hF := hF (tkArr t).toList (i * 29) w
  have hlow := h.low
  have hgb := (h.own.lt g rfl).1
  have hne := h.apart g rfl
  exact ⟨⟨hF.blk h.top (by omega), ho, own_of_heap h.wts fun k hk => hF.block k (h.wts.lt k hk).2 (fun hs => by subst hs; exact hne hk), ⟨hlow.1, Nat.le_trans hlow.2 hF.size⟩, h.apart, h.most⟩, hF.mono fun k _ e => .inr (by rw [e]; rfl)⟩

set_option maxRecDepth 100000 in
set_option maxHeartbeats 2000000 in
theorem RSet_yes (h : IsRef w rb rs lv wv room e) (i : Nat) (hi : i < e.n) (t : Tk) (hm : may t = true) (h8 : e.ts i 25 ≠ 8) : Calls Try.prog 28 #[.pointer (some ⟨rb, 0, none⟩), .int .i64 i, tkV t] w
    fun r w' => r = .returned (.int .i64 0) ∧ IsRef w' rb rs lv wv room ⟨e.n, updT e.ts i t, e.W⟩ ∧ Frm (RefS rb lv) w w' := by
  have HM := Lib.hid (fun w => refMay_any t w)
  rw [hm] at HM
  have h1 := size30 t
  have h2 := one30 t
  have hT := h.alloc (.cells (tkArr t) 30)
  obtain ⟨a, cap, rfl, hg⟩ := h.lvForm
  obtain ⟨g, rfl⟩ := hg (by omega)
  have hsz := tkArr_size t
  have hmost := h.most
  have HT := Lib.hid hT
  have n8 : (e.ts i 25 == 8) = false := by simpa using h8
  have c1 := hT.c1
  obtain ⟨V, hV⟩ : ∃ V, V = tkArr t := ⟨_, rfl⟩
  have HVV := Lib.hid hV
  rw [← hV] at h1 h2 HT hsz c1
  unfold tkV at HM ⊢
  rw [← hV] at HM ⊢
  obtain ⟨n, ts, Ws⟩ := e
  simp only at hi n8 c1 hmost
  have hiI : (i : Int) < n := by omega
  have i0 : ¬ (n : Int) ≤ i := by omega
  clear h hV hm hT h8 hg
  go_enter Try.func28, Try.ntmps28
  go_upto_region 3 with fail
  go_wp2_with (refine wpList_load_row rfl 30 _ rfl w.heap.size rfl 30 V (0, 0) _ (heap_alloc_new _ _) Try.underlying30 rfl h1 ?_)
  refine (HM.out _).mono ?_
  rintro r w2 ⟨rfl, hb2⟩
  have HT2 := Lib.hid (HT.out.below hb2)
  have HA2 := Lib.hid (show w2.heap[w.heap.size]? = some (.cells V 30 (0, 0)) from (hb2.block w.heap.size (by simp)).trans (heap_alloc_new w _))
  have HF2 := Lib.hid (show Frm (RefS rb (.slice (some ⟨g, 0, none⟩) n cap)) w w2 from ⟨hb2.os, hb2.tape, hb2.output, by have := hb2.size; simp at this; omega, fun k hk _ => (hb2.block k (by simp; omega)).trans (heap_alloc_old w _ hk)⟩)
  clear c1
  have c1 := HT2.out.c1
  have cs := HT2.out.cell (e := ⟨n, ts, Ws⟩) (i := i) hi (o := 25) (by omega)
  simp only [show tkKind 25 = .i64 from rfl] at cs
  generalize ts i 25 = st at *
  clear hb2 HM HT
  go_upto_region 7 with fail
  obtain ⟨A, hA⟩ : ∃ A, w.heap.size = A := ⟨_, rfl⟩
  rw [hA] at HA2
  rw [hA]
  refine wp_region_cut_held (fun w' => w'.cell? ⟨rb, 1, none⟩ = some (.slice (some ⟨g, 0, none⟩) n cap) ∧ w'.heap[A]? = some (.cells V 30 (0, 0))) 7 (by kernel_rfl) (by kernel_rfl) ⟨HT2.out.c1, HA2.out⟩ (fun hHeld => ?_)
  simp only [List.take_succ_cons, List.take_zero]
  refine wpAnyH_take (i := 0) (v := ?va0) rfl (by kernel_rfl) (by kernel_rfl) (by kernel_rfl) (fun _ _ _ h => h) (Or.inl ⟨by rfl, ?hya0⟩) (by assumption) ?resta0
  case hya0 => (intro w hSw; (try dsimp only at hSw); go_simp) <;> with_reducible rfl
  simp only [Act.put, List.getElem_toArray, List.getElem_cons_succ, List.getElem_cons_zero, List.setIfInBounds_toArray, List.set_cons_succ, List.set_cons_zero]
  refine wpAnyH_take (i := 1) (v := ?va1) rfl (by kernel_rfl) (by kernel_rfl) (by kernel_rfl) (fun _ _ _ h => h) (Or.inl ⟨by rfl, ?hya1⟩) (by assumption) ?resta1
  case hya1 => (intro w hSw; (try dsimp only at hSw); go_simp) <;> with_reducible rfl
  simp only [Act.put, List.getElem_toArray, List.getElem_cons_succ, List.getElem_cons_zero, List.setIfInBounds_toArray, List.set_cons_succ, List.set_cons_zero]
  refine wpAnyH_take (i := 2) (v := ?va2) rfl (by kernel_rfl) (by kernel_rfl) (by kernel_rfl) (fun _ _ _ h => h) (Or.inl ⟨by rfl, ?hya2⟩) (by assumption) ?resta2
  case hya2 => (intro w hSw; (try dsimp only at hSw); go_simp) <;> with_reducible rfl
  simp only [Act.put, List.getElem_toArray, List.getElem_cons_succ, List.getElem_cons_zero, List.setIfInBounds_toArray, List.set_cons_succ, List.set_cons_zero]
  refine wpAnyH_take (i := 3) (v := ?va3) rfl (by kernel_rfl) (by kernel_rfl) (by kernel_rfl) (fun _ _ _ h => h) (Or.inl ⟨by rfl, ?hya3⟩) (by assumption) ?resta3
  case hya3 => (intro w hSw; (try dsimp only at hSw); go_simp) <;> with_reducible rfl
  simp only [Act.put, List.getElem_toArray, List.getElem_cons_succ, List.getElem_cons_zero, List.setIfInBounds_toArray, List.set_cons_succ, List.set_cons_zero]
  refine wpAnyH_take (i := 4) (v := ?va4) rfl (by kernel_rfl) (by kernel_rfl) (by kernel_rfl) (fun _ _ _ h => h) (Or.inl ⟨by rfl, ?hya4⟩) (by assumption) ?resta4
  case hya4 => (intro w hSw; (try dsimp only at hSw); go_simp) <;> with_reducible rfl
  simp only [Act.put, List.getElem_toArray, List.getElem_cons_succ, List.getElem_cons_zero, List.setIfInBounds_toArray, List.set_cons_succ, List.set_cons_zero]
  refine wpAnyH_take (i := 5) (v := .agg V) rfl (by kernel_rfl) (by kernel_rfl) (by kernel_rfl) (fun _ _ _ h => h) (Or.inl ⟨by rfl, ?hyld⟩) (by assumption) ?restld
  case hyld =>
    intro w hSw
    exact yields30 (.tmp 5) rfl A rfl hSw.2 h1
  simp only [Act.put, List.getElem_toArray, List.getElem_cons_succ, List.getElem_cons_zero, List.setIfInBounds_toArray, List.set_cons_succ, List.set_cons_zero]
  refine wpAnyH_take (i := 6) (v := ?va6) rfl (by kernel_rfl) (by kernel_rfl) (by kernel_rfl) (fun _ _ _ h => h) (Or.inl ⟨by rfl, ?hya6⟩) (by assumption) ?resta6
  case hya6 => (intro w hSw; (try dsimp only at hSw); go_simp) <;> with_reducible rfl
  simp only [Act.put, List.getElem_toArray, List.getElem_cons_succ, List.getElem_cons_zero, List.setIfInBounds_toArray, List.set_cons_succ, List.set_cons_zero]
  refine wpAnyH_done (by kernel_rfl) ?_ _
  simp only [headPost, List.drop_succ_cons, List.drop_zero]
  have HT3 := Lib.hid (HT2.out.drewN 1)
  have ht : w2.drew.there g (i * 29) V.size := fun j hj => by
    rw [hsz] at hj
    have := HT3.out.cell (e := ⟨n, ts, Ws⟩) (i := i) hi hj
    exact ⟨by rw [show w2.drew.cell? ⟨g, i * 29 + j, none⟩ = _ from this]; rfl, HT3.out.own.frozenAt _⟩
  have HW := Lib.hid (HT3.out.wrote (e := ⟨n, ts, Ws⟩) (i := i) hi t)
  rw [← HVV.out] at HW
  go_wp2_with (refine wpList_store_mid rfl 30 _ _ rfl g (i * 29) V rfl rfl ht h1 h2 ?_)
  go_ret
  exact ⟨rfl, HW.out.1, HF2.out.trans ((Frm.refl _ _).drewN 1 |>.trans HW.out.2)⟩

set_option maxRecDepth 100000 in
set_option maxHeartbeats 2000000 in
theorem RSet_any (h : IsRef w rb rs lv wv room e) (i : Int) (t : Tk) : Calls Try.prog 28 #[.pointer (some ⟨rb, 0, none⟩), .int .i64 i, tkV t] w
    fun r w' => r = .returned (.int .i64 (setD e.n e.ts i t).1) ∧ IsRef w' rb rs lv wv room ⟨e.n, (setD e.n e.ts i t).2, e.W⟩ ∧ Frm (RefS rb lv) w w' := by
  have hB := (Below.refl w.heap.size w).alloc (Nat.le_refl _) (.cells (tkArr t) 30)
  have HB := Lib.hid hB
  have hT := h.alloc (.cells (tkArr t) 30)
  have HM := Lib.hid (fun w => refMay_any t w)
  have h1 := size30 t
  have hmost := h.most
  by_cases h2 : 0 ≤ i ∧ i < e.n
  · obtain ⟨i, rfl⟩ := Int.eq_ofNat_of_zero_le h2.1
    have hi : i < e.n := by omega
    cases hm : may t with
    | false =>
      have e1 : setD e.n e.ts i t = (1, e.ts) := by unfold setD; rw [if_neg (fun hn => hn h2), if_pos hm]
      rw [e1]
      rw [hm] at HM
      obtain ⟨a, cap, rfl, -⟩ := h.lvForm
      have HT := Lib.hid hT
      have c1 := hT.c1
      obtain ⟨V, hV⟩ : ∃ V, V = tkArr t := ⟨_, rfl⟩
      unfold tkV at HM ⊢
      rw [← hV] at h1 HT HB HM c1 ⊢
      obtain ⟨n, ts, Ws⟩ := e
      simp only at hi c1 hmost
      have hiI : (i : Int) < n := by omega
      have i0 : ¬ (n : Int) ≤ i := by omega
      clear h hT hB h2 hV e1 hm
      go_enter Try.func28, Try.ntmps28
      go_upto_region 3 with fail
      go_wp2_with (refine wpList_load_row rfl 30 _ rfl w.heap.size rfl 30 V (0, 0) _ (heap_alloc_new _ _) Try.underlying30 rfl h1 ?_)
      refine (HM.out _).mono ?_
      rintro r w2 ⟨rfl, hb2⟩
      have HT2 := Lib.hid (HT.out.below hb2)
      have HB2 := Lib.hid (HB.out.trans (hb2.mono HB.out.size))
      clear hb2
      go_wp2_with fail
      go_ret
      exact ⟨rfl, HT2.out, Frm.ofBelow HB2.out⟩
    | true =>
      by_cases h8 : e.ts i 25 = 8
      · have e1 : setD e.n e.ts i t = (5, e.ts) := by unfold setD; rw [if_neg (fun hn => hn h2), if_neg (by rw [hm]; simp), Int.toNat_natCast, if_pos h8]
        rw [e1]
        rw [hm] at HM
        obtain ⟨a, cap, rfl, hg⟩ := h.lvForm
        obtain ⟨g, rfl⟩ := hg (by omega)
        have HT := Lib.hid hT
        have c1 := hT.c1
        obtain ⟨V, hV⟩ : ∃ V, V = tkArr t := ⟨_, rfl⟩
        unfold tkV at HM ⊢
        rw [← hV] at h1 HT HB HM c1 ⊢
        have H8 := Lib.hid h8
        obtain ⟨n, ts, Ws⟩ := e
        simp only at hi H8 c1 hmost
        have hiI : (i : Int) < n := by omega
        have i0 : ¬ (n : Int) ≤ i := by omega
        clear h hT hB h2 hV e1 hm h8 hg
        go_enter Try.func28, Try.ntmps28
        go_upto_region 3 with fail
        go_wp2_with (refine wpList_load_row rfl 30 _ rfl w.heap.size rfl 30 V (0, 0) _ (heap_alloc_new _ _) Try.underlying30 rfl h1 ?_)
        refine (HM.out _).mono ?_
        rintro r w2 ⟨rfl, hb2⟩
        have HT2 := Lib.hid (HT.out.below hb2)
        have HB2 := Lib.hid (HB.out.trans (hb2.mono HB.out.size))
        clear c1
        have c1 := HT2.out.c1
        have cs := HT2.out.cell (e := ⟨n, ts, Ws⟩) (i := i) hi (o := 25) (by omega)
        simp only [show tkKind 25 = .i64 from rfl, H8.out] at cs
        clear hb2
        go_wp2_with fail
        go_ret
        exact ⟨rfl, HT2.out, Frm.ofBelow HB2.out⟩
      · have e1 : setD e.n e.ts i t = (0, updT e.ts i t) := by unfold setD; rw [if_neg (fun hn => hn h2), if_neg (by rw [hm]; simp), Int.toNat_natCast, if_neg h8]
        rw [e1]
        exact RSet_yes h i hi t hm h8
  · have e1 : setD e.n e.ts i t = (3, e.ts) := by unfold setD; rw [if_pos h2]
    rw [e1]
    obtain ⟨a, cap, rfl, -⟩ := h.lvForm
    have HT := Lib.hid hT
    have c1 := hT.c1
    obtain ⟨V, hV⟩ : ∃ V, V = tkArr t := ⟨_, rfl⟩
    unfold tkV
    rw [← hV] at HT HB c1 ⊢
    obtain ⟨n, ts, Ws⟩ := e
    simp only at c1 h2
    by_cases h0 : i < 0
    · clear h hT hB h2 hV e1 h1 HM
      go_enter Try.func28, Try.ntmps28
      go_wp2_with fail
      go_ret
      exact ⟨rfl, HT.out, Frm.ofBelow HB.out⟩
    · have h3 : (n : Int) ≤ i := by omega
      clear h hT hB h2 hV e1 h1 HM
      go_enter Try.func28, Try.ntmps28
      go_wp2_with fail
      go_ret
      exact ⟨rfl, HT.out, Frm.ofBelow HB.out⟩
end
end Go.Proofs.Ytedhhohnbekelaa
