/- A call of the law TablePlays to both tables: Joined, Add, and whatever it is. No condition. -/
import Derived.Test.YtedhhohnbekelaaTi
namespace Go.Proofs.Ytedhhohnbekelaa
open Go.RowKit Go.Deep

section
variable {w0 w : World} {base tb c bn bl rb rs room : Nat} {vn vl : Value} {Kp : List (Nat × Obj)} {d : Tb} {W : List (Nat × Nat)}

set_option maxRecDepth 100000 in
set_option maxHeartbeats 2000000 in
theorem do_joined (h : PrE w0 w base tb c bn bl rb rs vn vl room Kp d ⟨d.n, d.ts, W⟩) (hr : Rel W d.R) (hw : ∀ p ∈ W, p.2 < d.n) (h100 : W.length < 100) (K : Int) (t : Tk) (id on : Int) (h0 : 0 ≤ K) (hk : K % 7 = 6) :
    Calls Try.prog 18 #[.pointer (some ⟨tb, 0, none⟩), .pointer (some ⟨rb, 0, none⟩), .agg (opArr ⟨K, t, id, on⟩)] w (DoTo w0 base tb c bn bl rb rs vn vl room Kp W) := by
  have e2 : (K % 7 == 2) = false := by simp [hk]
  have e3 : (K % 7 == 3) = false := by simp [hk]
  have e4 : (K % 7 == 4) = false := by simp [hk]
  have e5 : (K % 7 == 5) = false := by simp [hk]
  have e6 : (K % 7 == 6) = true := by simp [hk]
  have hmost : d.n ≤ room := by obtain ⟨lv, xl, xw, h⟩ := h; exact h.tab.most.1
  have HP := Lib.hid (h.new (opArr ⟨K, t, id, on⟩) 37)
  have HREL := Lib.hid hr
  have HWN := Lib.hid hw
  have h1 : (Try.prog.info? 30).map (·.size) = some (tkArr t).toList.length := by rw [Array.length_toList]; exact size30 _
  obtain ⟨j1, j2, j3⟩ := rel_joined hr hw on
  have j4 := leftL_len W on
  have j5 := outL_len W on
  obtain ⟨OA, hOA⟩ : ∃ OA, OA = opArr ⟨K, t, id, on⟩ := ⟨_, rfl⟩
  rw [← hOA] at HP
  rw [← hOA]
  obtain ⟨TA, hTA⟩ : ∃ TA, TA = tkArr t := ⟨_, rfl⟩
  rw [← hTA] at h1
  have HOA := Lib.hid hOA
  have HTA := Lib.hid hTA
  clear h hr hw hOA hTA hk
  go_enter Try.func18, Try.ntmps18
  go_upto_region 1 with fail
  obtain ⟨A, hA⟩ : ∃ A, w.heap.size = A := ⟨_, rfl⟩
  obtain ⟨w1, hw1⟩ : ∃ w1, w.alloc (.cells OA 37) = w1 := ⟨_, rfl⟩
  rw [hA, hw1] at HP
  rw [hA, hw1]
  clear hA hw1
  obtain ⟨Kq, hKq⟩ : ∃ Kq, Kq = (A, Obj.cells OA 37 (0, 0)) :: Kp := ⟨_, rfl⟩
  rw [← hKq] at HP
  have HK1 := Lib.hid (show (A, Obj.cells OA 37 (0, 0)) ∈ Kq by rw [hKq]; exact List.mem_cons_self)
  have HK2 := Lib.hid (show ∀ p ∈ Kp, p ∈ Kq by rw [hKq]; exact fun p hp => List.mem_cons_of_mem _ hp)
  clear hKq
  have KS := Lib.hid (fun (w' : World) (hh : w'.heap[A]? = some (Obj.cells OA 37 (0, 0))) => show w'.cell? ⟨A, 30, none⟩ = some (.int .i64 id) ∧ w'.cell? ⟨A, 31, none⟩ = some (.int .i64 on) ∧ w'.rangeAt A 1 TA.toList from by
    have ho : OpAt w' A ⟨K, t, id, on⟩ := by unfold OpAt; rw [← HOA.out]; exact hh
    exact ⟨ho.c30, ho.c31, by rw [HTA.out]; exact ho.task⟩)
  have c0 : w1.cell? ⟨A, 0, none⟩ = some (.int .u64 K) := by
    have ho : OpAt w1 A ⟨K, t, id, on⟩ := by unfold OpAt; rw [← HOA.out]; exact HP.out.kept HK1.out
    exact ho.c0
  have HA := Lib.hid (fun (w' : World) (hh : PrE w0 w' base tb c bn bl rb rs vn vl room Kq d ⟨d.n, d.ts, W⟩) => PJoined hh on)
  have HB := Lib.hid (fun (w' : World) (Kr : List (Nat × Obj)) (d' : Tb) (hh : PrE w0 w' base tb c bn bl rb rs vn vl room Kr d' ⟨d.n, d.ts, W⟩) => QJoined hh on)
  simp only at HB
  rw [j1] at HA
  have HFIN := Lib.hid (fun (w' : World) (Kr : List (Nat × Obj)) (hs : ∀ p ∈ Kp, p ∈ Kr) (hh : PrE w0 w' base tb c bn bl rb rs vn vl room Kr ⟨d.n, d.ts, joinedR d.n d.R on⟩ ⟨d.n, d.ts, leftL W on⟩) => show ∃ d' W', PrE w0 w' base tb c bn bl rb rs vn vl room Kp d' ⟨d'.n, d'.ts, W'⟩ ∧ Rel W' d'.R ∧ (∀ p ∈ W', p.2 < d'.n) ∧ W'.length ≤ W.length + 1 from
    ⟨_, _, hh.less hs, j2, j3, by omega⟩)
  have hl : (outL W on).length ≤ 1000 := by omega
  have HLL := Lib.hid hl
  clear j1 j2 j3 j4 j5 hl
  generalize joinedR d.n d.R on = q at *
  generalize outL W on = l at *
  generalize leftL W on = p at *
  go_wp2_with fail
  refine wp_region_held_drew (S := fun w' => w'.cell? ⟨A, 30, none⟩ = some (.int .i64 id) ∧ w'.cell? ⟨A, 31, none⟩ = some (.int .i64 on) ∧ w'.rangeAt A 1 TA.toList) (by kernel_rfl) (KS.out _ (HP.out.kept HK1.out)) (fun hHeld => ?_)
  refine wpAnyH_take (i := 0) (v := ?va0) rfl (by kernel_rfl) (by kernel_rfl) (by kernel_rfl) (fun _ _ _ h => h) (Or.inl ⟨by rfl, ?hya0⟩) (by assumption) ?resta0
  case hya0 => (intro w hSw; (try dsimp only at hSw); go_simp) <;> with_reducible rfl
  simp only [Act.put, List.getElem_toArray, List.getElem_cons_succ, List.getElem_cons_zero, List.setIfInBounds_toArray, List.set_cons_succ, List.set_cons_zero]
  refine wpAnyH_take (i := 1) (v := ?va1) rfl (by kernel_rfl) (by kernel_rfl) (by kernel_rfl) (fun _ _ _ h => h) (Or.inl ⟨by rfl, ?hya1⟩) (by assumption) ?resta1
  case hya1 => (intro w hSw; (try dsimp only at hSw); go_simp) <;> with_reducible rfl
  simp only [Act.put, List.getElem_toArray, List.getElem_cons_succ, List.getElem_cons_zero, List.setIfInBounds_toArray, List.set_cons_succ, List.set_cons_zero]
  refine wpAnyH_take (i := 2) (v := ?va2) rfl (by kernel_rfl) (by kernel_rfl) (by kernel_rfl) (fun _ _ _ h => h) (Or.inl ⟨by rfl, ?hya2⟩) (by assumption) ?resta2
  case hya2 => (intro w hSw; (try dsimp only at hSw); go_simp) <;> with_reducible rfl
  simp only [Act.put, List.getElem_toArray, List.getElem_cons_succ, List.getElem_cons_zero, List.setIfInBounds_toArray, List.set_cons_succ, List.set_cons_zero]
  refine wpAnyH_take (i := 4) (v := ?va4) rfl (by kernel_rfl) (by kernel_rfl) (by kernel_rfl) (fun _ _ _ h => h) (Or.inl ⟨by rfl, ?hya4⟩) (by assumption) ?resta4
  case hya4 => (intro w hSw; (try dsimp only at hSw); go_simp) <;> with_reducible rfl
  simp only [Act.put, List.getElem_toArray, List.getElem_cons_succ, List.getElem_cons_zero, List.setIfInBounds_toArray, List.set_cons_succ, List.set_cons_zero]
  refine wpAnyH_take (i := 5) (v := ?va5) rfl (by kernel_rfl) (by kernel_rfl) (by kernel_rfl) (fun _ _ _ h => h) (Or.inl ⟨by rfl, ?hya5⟩) (by assumption) ?resta5
  case hya5 => (intro w hSw; (try dsimp only at hSw); go_simp) <;> with_reducible rfl
  simp only [Act.put, List.getElem_toArray, List.getElem_cons_succ, List.getElem_cons_zero, List.setIfInBounds_toArray, List.set_cons_succ, List.set_cons_zero]
  refine wpAnyH_take (i := 6) (v := ?va6) rfl (by kernel_rfl) (by kernel_rfl) (by kernel_rfl) (fun _ _ _ h => h) (Or.inl ⟨by rfl, ?hya6⟩) (by assumption) ?resta6
  case hya6 => (intro w hSw; (try dsimp only at hSw); go_simp) <;> with_reducible rfl
  simp only [Act.put, List.getElem_toArray, List.getElem_cons_succ, List.getElem_cons_zero, List.setIfInBounds_toArray, List.set_cons_succ, List.set_cons_zero]
  refine wpAnyH_ready (rs := [3]) (by kernel_rfl) (by simp) ?_
  refine AllReadyH.cons rfl (fun K hK => ?_) AllReadyH.nil
  go_simp
  refine (HA.out _ (HP.out.below (Below.refl _ _).drew)).mono ?_
  rintro e w2 ⟨v, Kr, rfl, h2, hk2, hs2⟩
  have HP2 := Lib.hid h2
  have HV2 := Lib.hid hk2
  have HS2 := Lib.hid hs2
  clear h2 hk2 hs2
  refine hK.out _ _ (KS.out _ (HP2.out.kept (HS2.out _ HK1.out))) (fun hHeld => ?_)
  clear hK K
  try simp only [Act.put, List.getElem_toArray, List.getElem_cons_succ, List.getElem_cons_zero, List.setIfInBounds_toArray, List.set_cons_succ, List.set_cons_zero]
  refine wpAnyH_ready (rs := [7]) (by kernel_rfl) (by simp) ?_
  refine AllReadyH.cons rfl (fun K hK => ?_) AllReadyH.nil
  go_simp
  refine (HB.out _ _ _ HP2.out).mono ?_
  rintro e w3 ⟨u, Kr3, rfl, h3, hk3, hs3⟩
  have HP3 := Lib.hid h3
  have HV3 := Lib.hid (HV2.out.mono h3 hs3).sl
  have HU3 := Lib.hid hk3.sl
  have HS3 := Lib.hid (fun p hp => hs3 p (HS2.out p hp))
  clear h3 hk3 hs3
  refine hK.out _ _ (KS.out _ (HP3.out.kept (HS3.out _ HK1.out))) (fun hHeld => ?_)
  clear hK K
  try simp only [Act.put, List.getElem_toArray, List.getElem_cons_succ, List.getElem_cons_zero, List.setIfInBounds_toArray, List.set_cons_succ, List.set_cons_zero]
  refine wpAnyH_ready (rs := [8]) (by kernel_rfl) (by simp) ?_
  refine AllReadyH.cons rfl (fun K hK => ?_) AllReadyH.nil
  go_simp
  refine (Same_eq HV3.out HU3.out HLL.out).mono ?_
  rintro e w4 ⟨rfl, k, rfl⟩
  have HP4 := Lib.hid (HP3.out.below (Go.Proofs.Ytedhhohnbekelaa.Below.drewN (Below.refl _ _) k))
  refine hK.out _ _ (KS.out _ (HP4.out.kept (HS3.out _ HK1.out))) (fun hHeld => ?_)
  clear hK K
  try simp only [Act.put, List.getElem_toArray, List.getElem_cons_succ, List.getElem_cons_zero, List.setIfInBounds_toArray, List.set_cons_succ, List.set_cons_zero]
  refine wpAnyH_take (i := 9) (v := ?vz9) rfl (by kernel_rfl) (by kernel_rfl) (by kernel_rfl) (fun _ _ _ h => h) (Or.inl ⟨by rfl, ?hyz9⟩) (by assumption) ?restz9
  case hyz9 => (intro w hSw; (try dsimp only at hSw); go_simp) <;> with_reducible rfl
  simp only [Act.put, List.getElem_toArray, List.getElem_cons_succ, List.getElem_cons_zero, List.setIfInBounds_toArray, List.set_cons_succ, List.set_cons_zero]
  refine wpAnyH_done (by kernel_rfl) ?_ _
  go_wp2_with fail
  go_ret
  exact ⟨rfl, HFIN.out _ _ (fun p hp => HS3.out p (HK2.out p hp)) HP4.out⟩

set_option maxRecDepth 100000 in
set_option maxHeartbeats 2000000 in
theorem do_add (h : PrE w0 w base tb c bn bl rb rs vn vl room Kp d ⟨d.n, d.ts, W⟩) (hr : Rel W d.R) (hw : ∀ p ∈ W, p.2 < d.n) (h100 : W.length < 100) (K : Int) (t : Tk) (id on : Int) (h0 : 0 ≤ K) (hk : K % 7 = 0 ∨ K % 7 = 1) :
    Calls Try.prog 18 #[.pointer (some ⟨tb, 0, none⟩), .pointer (some ⟨rb, 0, none⟩), .agg (opArr ⟨K, t, id, on⟩)] w (DoTo w0 base tb c bn bl rb rs vn vl room Kp W) := by
  have e2 : (K % 7 == 2) = false := by rcases hk with hk | hk <;> simp [hk]
  have e3 : (K % 7 == 3) = false := by rcases hk with hk | hk <;> simp [hk]
  have e4 : (K % 7 == 4) = false := by rcases hk with hk | hk <;> simp [hk]
  have e5 : (K % 7 == 5) = false := by rcases hk with hk | hk <;> simp [hk]
  have e6 : (K % 7 == 6) = false := by rcases hk with hk | hk <;> simp [hk]
  have hmost : d.n ≤ room := by obtain ⟨lv, xl, xw, h⟩ := h; exact h.tab.most.1
  have HP := Lib.hid (h.new (opArr ⟨K, t, id, on⟩) 37)
  have HREL := Lib.hid hr
  have HWN := Lib.hid hw
  have h1 : (Try.prog.info? 30).map (·.size) = some (tkArr t).toList.length := by rw [Array.length_toList]; exact size30 _
  have j1 := addD_ge d.n room d.ts t
  obtain ⟨OA, hOA⟩ : ∃ OA, OA = opArr ⟨K, t, id, on⟩ := ⟨_, rfl⟩
  rw [← hOA] at HP
  rw [← hOA]
  obtain ⟨TA, hTA⟩ : ∃ TA, TA = tkArr t := ⟨_, rfl⟩
  rw [← hTA] at h1
  have HOA := Lib.hid hOA
  have HTA := Lib.hid hTA
  clear h hr hw hOA hTA hk
  go_enter Try.func18, Try.ntmps18
  go_upto_region 1 with fail
  obtain ⟨A, hA⟩ : ∃ A, w.heap.size = A := ⟨_, rfl⟩
  obtain ⟨w1, hw1⟩ : ∃ w1, w.alloc (.cells OA 37) = w1 := ⟨_, rfl⟩
  rw [hA, hw1] at HP
  rw [hA, hw1]
  clear hA hw1
  obtain ⟨Kq, hKq⟩ : ∃ Kq, Kq = (A, Obj.cells OA 37 (0, 0)) :: Kp := ⟨_, rfl⟩
  rw [← hKq] at HP
  have HK1 := Lib.hid (show (A, Obj.cells OA 37 (0, 0)) ∈ Kq by rw [hKq]; exact List.mem_cons_self)
  have HK2 := Lib.hid (show ∀ p ∈ Kp, p ∈ Kq by rw [hKq]; exact fun p hp => List.mem_cons_of_mem _ hp)
  clear hKq
  have KS := Lib.hid (fun (w' : World) (hh : w'.heap[A]? = some (Obj.cells OA 37 (0, 0))) => show w'.cell? ⟨A, 30, none⟩ = some (.int .i64 id) ∧ w'.cell? ⟨A, 31, none⟩ = some (.int .i64 on) ∧ w'.rangeAt A 1 TA.toList from by
    have ho : OpAt w' A ⟨K, t, id, on⟩ := by unfold OpAt; rw [← HOA.out]; exact hh
    exact ⟨ho.c30, ho.c31, by rw [HTA.out]; exact ho.task⟩)
  have c0 : w1.cell? ⟨A, 0, none⟩ = some (.int .u64 K) := by
    have ho : OpAt w1 A ⟨K, t, id, on⟩ := by unfold OpAt; rw [← HOA.out]; exact HP.out.kept HK1.out
    exact ho.c0
  have HA := Lib.hid (fun (w' : World) (hh : PrE w0 w' base tb c bn bl rb rs vn vl room Kq d ⟨d.n, d.ts, W⟩) => PAdd hh t)
  have HB := Lib.hid (fun (w' : World) (d' : Tb) (hh : PrE w0 w' base tb c bn bl rb rs vn vl room Kq d' ⟨d.n, d.ts, W⟩) => QAdd hh t)
  simp only at HB
  unfold tkV at HA HB
  rw [← HTA.out] at HA HB
  have HFIN := Lib.hid (fun (w' : World) (hh : PrE w0 w' base tb c bn bl rb rs vn vl room Kq ⟨(addD d.n room d.ts t).2.2.1, (addD d.n room d.ts t).2.2.2, d.R⟩ ⟨(addD d.n room d.ts t).2.2.1, (addD d.n room d.ts t).2.2.2, W⟩) => show ∃ d' W', PrE w0 w' base tb c bn bl rb rs vn vl room Kp d' ⟨d'.n, d'.ts, W'⟩ ∧ Rel W' d'.R ∧ (∀ p ∈ W', p.2 < d'.n) ∧ W'.length ≤ W.length + 1 from
    ⟨_, _, hh.less HK2.out, HREL.out, fun p hp => Nat.lt_of_lt_of_le (HWN.out p hp) j1, by omega⟩)
  clear j1
  generalize addD d.n room d.ts t = q at *
  obtain ⟨q1, q2, q3, q4⟩ := q
  simp only at HA HB HFIN
  have HR1 := Lib.hid (KS.out _ (HP.out.kept HK1.out)).2.2
  go_wp2_with (refine wpList_load_mid rfl 30 _ rfl A 1 rfl TA.toList _ HR1.out Try.underlying30 rfl h1 ?_; rw [Array.toArray_toList])
  refine (HA.out _ HP.out).mono ?_
  rintro e w2 ⟨rfl, h2⟩
  have HP2 := Lib.hid h2
  clear h2
  have HR2 := Lib.hid (KS.out _ (HP2.out.kept HK1.out)).2.2
  go_wp2_with (refine wpList_load_mid rfl 30 _ rfl A 1 rfl TA.toList _ HR2.out Try.underlying30 rfl h1 ?_; rw [Array.toArray_toList])
  refine (HB.out _ _ HP2.out).mono ?_
  rintro e w3 ⟨rfl, h3⟩
  have HP3 := Lib.hid h3
  clear h3
  go_wp2_with fail
  go_ret
  exact ⟨by first | rfl | (simp; done), HFIN.out _ HP3.out⟩

theorem do_any (h : PrE w0 w base tb c bn bl rb rs vn vl room Kp d ⟨d.n, d.ts, W⟩) (hr : Rel W d.R) (hw : ∀ p ∈ W, p.2 < d.n) (h100 : W.length < 100) (o : Opn) (h0 : 0 ≤ o.kind) :
    Calls Try.prog 18 #[.pointer (some ⟨tb, 0, none⟩), .pointer (some ⟨rb, 0, none⟩), .agg (opArr o)] w (DoTo w0 base tb c bn bl rb rs vn vl room Kp W) := by
  obtain ⟨K, t, id, on⟩ := o
  rcases (show K % 7 = 0 ∨ K % 7 = 1 ∨ K % 7 = 2 ∨ K % 7 = 3 ∨ K % 7 = 4 ∨ K % 7 = 5 ∨ K % 7 = 6 by omega) with hk | hk | hk | hk | hk | hk | hk
  · exact do_add h hr hw h100 K t id on h0 (.inl hk)
  · exact do_add h hr hw h100 K t id on h0 (.inr hk)
  · exact do_set2 h hr hw h100 K t id on h0 hk
  · exact do_set3 h hr hw h100 K t id on h0 hk
  · exact do_join4 h hr hw h100 K t id on h0 hk
  · exact do_join5 h hr hw h100 K t id on h0 hk
  · exact do_joined h hr hw h100 K t id on h0 hk
end
end Go.Proofs.Ytedhhohnbekelaa
