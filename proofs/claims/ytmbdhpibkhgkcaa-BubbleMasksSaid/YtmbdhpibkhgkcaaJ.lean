/- Mask, Free, Inside (package bubble). No condition. -/
import Derived.Test.YtmbdhpibkhgkcaaIa
namespace Go.Proofs.Ytmbdhpibkhgkcaa
open Go.RowKit

theorem yields29m {a : Act} {o : Oper} {w : World} {V : Array Value} (x : Operand) (ho : o.op = .load 29 x) (A j : Nat) (hx : a.eval x = .pointer (some ⟨A, j, none⟩)) (hg : w.rangeAt A j V.toList) (h1 : (Try.prog.info? 29).map (·.size) = some V.toList.length) :
    (execOp a.eval o).run Try.prog w = .ok (.value (.agg V)) w := by
  unfold execOp
  simp only [ho, hx, Instr.loadAt, Instr.sureAddr, Sem.run_bind, Sem.run_pure, Result.andThen_ok, run_loadVar_mid w A j 29 V.toList _ hg Try.underlying29 rfl h1, Array.toArray_toList]

/-- Mask's way up. -/
def maskI (n : Nat) (bs : Nat → Bk) : Nat → Int → Ws → Ws
  | 0, _, s => s
  | f + 1, b, s => if isB n b = true then maskI n bs f (bs b.toNat 0) (andW s (maskOf (bs b.toNat))) else s
def maskD (n : Nat) (bs : Nat → Bk) (b : Int) : Ws := maskI n bs (b + 1).toNat b wsAll
theorem maskI_no {n : Nat} {bs : Nat → Bk} {b : Int} (h : isB n b = false) (f : Nat) (s : Ws) : maskI n bs f b s = s := by
  cases f with
  | zero => rfl
  | succ f => unfold maskI; rw [if_neg (by rw [h]; simp)]

/-- Free's way up. -/
def freeI (n : Nat) (bs : Nat → Bk) : Nat → Int → Bool
  | 0, b => b == -1
  | f + 1, b => if isB n b = true then (if bs b.toNat 17 = 4 then freeI n bs f (bs b.toNat 0) else false) else b == -1
def freeD (n : Nat) (bs : Nat → Bk) (b : Int) : Bool := freeI n bs (b + 1).toNat b
theorem freeI_no {n : Nat} {bs : Nat → Bk} {b : Int} (h : isB n b = false) (f : Nat) : freeI n bs f b = (b == -1) := by
  cases f with
  | zero => rfl
  | succ f => unfold freeI; rw [if_neg (by rw [h]; simp)]

theorem isB_iff {n : Nat} {b : Int} : isB n b = true ↔ 0 ≤ b ∧ b < n := by unfold isB; exact decide_eq_true_iff

section
variable {w w' : World} {base fb n : Nat} {lv : Value} {bs : Nat → Bk}

set_option maxRecDepth 100000 in
set_option maxHeartbeats 1000000 in
theorem FFree_any (h : IsFo w base fb lv n bs) (b : Int) : Calls Try.prog 13 #[.pointer (some ⟨fb, 0, none⟩), .int .i64 b] w fun r w' => r = .returned (.bool (freeD n bs b)) ∧ w = w' := by
  have H := Lib.hid h
  obtain ⟨R, hR⟩ : ∃ R, freeD n bs b = R := ⟨_, rfl⟩
  rw [hR]
  have HR := Lib.hid (show freeI n bs (b + 1).toNat b = R from hR)
  clear h hR
  go_enter Try.func13, Try.ntmps13
  go_wp2_with fail
  go_loopw [1] (fun x wr => ∃ (c : Int) (f : Nat), x = .int .i64 c ∧ c < f ∧ freeI n bs f c = R ∧ w = wr) (fun x _ => (intOf x + 1).toNat)
  case atStart => exact ⟨b, (b + 1).toNat, rfl, by omega, HR.out, rfl⟩
  case round =>
    clear HR
    obtain ⟨c, f, rfl, hf, hR, rfl⟩ := hrel
    have HI := Lib.hid (FIs_any H.out c)
    cases hb : isB n c with
    | true =>
      rw [hb] at HI
      obtain ⟨c0, c1⟩ := isB_iff.1 hb
      obtain ⟨c, rfl⟩ := Int.eq_ofNat_of_zero_le c0
      obtain ⟨f, rfl⟩ : ∃ f', f = f' + 1 := ⟨f - 1, by omega⟩
      unfold freeI at hR
      rw [if_pos hb, Int.toNat_natCast] at hR
      have hc : c < n := by omega
      obtain ⟨a, cap, rfl, hg⟩ := H.out.lvForm
      obtain ⟨g, rfl, hgb⟩ := hg (by omega)
      have k0 := H.out.c0
      have k1 := H.out.cell hc (o := 17) (by omega)
      have k2 := H.out.cell hc (o := 0) (by omega)
      rw [show buKind 17 = .i64 from rfl] at k1
      rw [show buKind 0 = .i64 from rfl, Nat.add_zero] at k2
      have hup := H.out.ups c hc
      by_cases h4 : bs c 17 = 4
      · rw [if_pos h4] at hR
        rw [h4] at k1
        have HRR := Lib.hid hR
        clear hR h4 hb hg
        generalize bs c 0 = u at *
        go_wp2_with fail
        refine HI.out.mono ?_
        rintro r w' ⟨rfl, rfl⟩
        go_wp2_with fail
        go_roundw
        case rel => exact ⟨u, f, rfl, by omega, HRR.out, trivial⟩
        case measure => simp only [intOf]; omega
      · rw [if_neg h4] at hR
        have n4 : (bs c 17 == 4) = false := by simpa using h4
        have n5 : (bs c 17 != 4) = true := by simpa using h4
        clear h4 hb hg
        generalize bs c 17 = st at *
        subst hR
        go_wp2_with fail
        refine HI.out.mono ?_
        rintro r w' ⟨rfl, rfl⟩
        go_wp2_with fail
        go_ret
        exact ⟨rfl, rfl⟩
    | false =>
      rw [hb] at HI
      rw [freeI_no hb] at hR
      have HRR := Lib.hid hR
      clear hR hb
      go_wp2_with fail
      refine HI.out.mono ?_
      rintro r w' ⟨rfl, rfl⟩
      go_wp2_with fail
      go_ret
      exact ⟨by rw [← HRR.out]; rfl, rfl⟩

set_option maxRecDepth 100000 in
set_option maxHeartbeats 2000000 in
theorem FMask_any (h : IsFo w base fb lv n bs) (b : Int) : Calls Try.prog 14 #[.pointer (some ⟨fb, 0, none⟩), .int .i64 b] w fun r w' => r = .returned (wsV (maskD n bs b)) ∧ Below w.heap.size w w' := by
  have hz := zero29
  have z1 := size29 ws0
  obtain ⟨R, hR⟩ : ∃ R, maskD n bs b = R := ⟨_, rfl⟩
  rw [hR]
  have HR := Lib.hid (show maskI n bs (b + 1).toNat b wsAll = R from hR)
  have s1 := size29 wsAll
  have s2 := one29 wsAll
  have z3 : (wsArr ws0).size = (wsArr wsAll).size := by rw [wsArr_size, wsArr_size]
  have t1 := size29 R
  have t2 := one29 R
  have t3 : (wsArr ws0).size = (wsArr R).size := by rw [wsArr_size, wsArr_size]
  have HRA := Lib.hid (fun w => Range_all w)
  unfold wsV at HRA ⊢
  rw [range_all] at HRA
  have HA1 := Lib.hid (show (w.alloc (.cells (wsArr ws0) 29)).heap[w.heap.size]? = some (.cells (wsArr ws0) 29 (0, 0)) from heap_alloc_new _ _)
  have HB1 := Lib.hid ((Below.refl w.heap.size w).alloc (Nat.le_refl _) (.cells (wsArr ws0) 29))
  have H := Lib.hid h
  obtain ⟨Z, hZ⟩ : ∃ Z, Z = wsArr ws0 := ⟨_, rfl⟩
  obtain ⟨V, hV⟩ : ∃ V, V = wsArr wsAll := ⟨_, rfl⟩
  obtain ⟨U, hU⟩ : ∃ U, U = wsArr R := ⟨_, rfl⟩
  simp only [← hZ] at hz z1 z3 t3
  rw [← hZ] at HA1 HB1
  rw [← hV] at HRA s1 s2 z3
  rw [← hU] at t1 t2 t3 ⊢
  have HVV := Lib.hid hV
  have HUU := Lib.hid hU
  clear h hR hZ hV hU
  obtain ⟨w1, hw1⟩ : ∃ w1, w.alloc (.cells Z 29) = w1 := ⟨_, rfl⟩
  obtain ⟨A, hA⟩ : ∃ A, w.heap.size = A := ⟨_, rfl⟩
  have HAA := Lib.hid (show w.heap.size ≤ A by omega)
  rw [hw1, hA] at HA1
  rw [hw1] at HB1
  go_enter Try.func14, Try.ntmps14
  go_upto_region 1 with fail
  clear hw1 hA
  go_wp2_with fail
  refine (HRA.out _).mono ?_
  rintro r w2 ⟨rfl, hb⟩
  have HA2 := Lib.hid ((hb.block A (Array.getElem?_eq_some_iff.1 HA1.out).1).trans HA1.out)
  have HB2 := Lib.hid (HB1.out.trans (hb.mono HB1.out.size))
  clear hb HRA HA1 HB1
  go_wp2_with (refine wpList_store_row rfl 29 _ _ rfl w2.heap.size V rfl rfl 29 Z (heap_alloc_new _ _) s1 z3 s2 ?_; rw [setRow_new])
  obtain ⟨w3, hw3⟩ : ∃ w3, w2.alloc (.cells V 29) = w3 := ⟨_, rfl⟩
  obtain ⟨B, hB⟩ : ∃ B, w2.heap.size = B := ⟨_, rfl⟩
  have hAB : A ≠ B := by have := (Array.getElem?_eq_some_iff.1 HA2.out).1; omega
  have HBB := Lib.hid (show w.heap.size ≤ B by have := HB2.out.size; omega)
  have HA3 := Lib.hid (show w3.heap[A]? = some (.cells Z 29 (0, 0)) by rw [← hw3, heap_alloc_old _ _ (Array.getElem?_eq_some_iff.1 HA2.out).1]; exact HA2.out)
  have HS3 := Lib.hid (show WsAt w3 B wsAll by unfold WsAt; rw [← hw3, ← hB, ← HVV.out]; exact heap_alloc_new _ _)
  have HB3 := Lib.hid (show Below w.heap.size w w3 by rw [← hw3]; exact HB2.out.alloc HB2.out.size _)
  rw [hw3, hB]
  clear hw3 hB HA2 HB2
  simp only [Act.put]
  go_loopw [1] (fun x wr => ∃ (c : Int) (f : Nat) (s : Ws), x = .int .i64 c ∧ c < f ∧ maskI n bs f c s = R ∧ WsAt wr B s ∧ wr.heap[A]? = some (.cells Z 29 (0, 0)) ∧ Below w.heap.size w wr) (fun x _ => (intOf x + 1).toNat)
  case atStart => exact ⟨b, (b + 1).toNat, wsAll, rfl, by omega, HR.out, HS3.out, HA3.out, HB3.out⟩
  case round =>
    clear HR HS3 HA3 HB3
    obtain ⟨c, f, s, rfl, hf, hR, hS, hA, hBr⟩ := hrel
    have HS := Lib.hid hS
    have HA := Lib.hid hA
    have HB := Lib.hid hBr
    have HF := Lib.hid (H.out.below hBr)
    clear hS hA hBr
    have HI := Lib.hid (FIs_any HF.out c)
    cases hb : isB n c with
    | true =>
      rw [hb] at HI
      obtain ⟨c0, c1⟩ := isB_iff.1 hb
      obtain ⟨c, rfl⟩ := Int.eq_ofNat_of_zero_le c0
      obtain ⟨f, rfl⟩ : ∃ f', f = f' + 1 := ⟨f - 1, by omega⟩
      unfold maskI at hR
      rw [if_pos hb, Int.toNat_natCast] at hR
      have hc : c < n := by omega
      obtain ⟨a, cap, rfl, hg⟩ := HF.out.lvForm
      obtain ⟨g, rfl, hgb⟩ := hg (by omega)
      have hup := HF.out.ups c hc
      have HM := Lib.hid (HF.out.mask hc)
      have m1 : (Try.prog.info? 29).map (·.size) = some (wsArr (maskOf (bs c))).toList.length := by rw [Array.length_toList]; exact size29 _
      have HAN := Lib.hid (fun w => And_any s (maskOf (bs c)) w)
      have HRR := Lib.hid hR
      have v1 := size29 s
      have v2 := size29 (andW s (maskOf (bs c)))
      have v3 := one29 (andW s (maskOf (bs c)))
      have v4 : (wsArr s).size = (wsArr (andW s (maskOf (bs c)))).size := by rw [wsArr_size, wsArr_size]
      have HSB := Lib.hid (show wr.heap[B]? = some (.cells (wsArr s) 29 (0, 0)) from HS.out)
      have HFIN := Lib.hid (fun (w5 : World) (T : Array Value) (hT : wsArr (andW s (maskOf (bs c))) = T) (h : w5.heap[B]? = some (.cells (wsArr s) 29 (0, 0))) => show WsAt (w5.setRow B T) B (andW s (maskOf (bs c))) by unfold WsAt; rw [hT]; exact setRow_heap w5 B _ _ 29 (0, 0) h)
      unfold wsV at HAN
      obtain ⟨S, hS⟩ : ∃ S, wsArr s = S := ⟨_, rfl⟩
      obtain ⟨M, hM⟩ : ∃ M, wsArr (maskOf (bs c)) = M := ⟨_, rfl⟩
      obtain ⟨T, hT⟩ : ∃ T, wsArr (andW s (maskOf (bs c))) = T := ⟨_, rfl⟩
      rw [hS] at v1 v4 HSB HFIN
      simp only [hS, hM, hT] at HAN
      rw [hT] at v2 v3 v4
      rw [hM] at m1 HM
      have HTT := Lib.hid hT
      clear hR hb hg hS hM hT
      go_wp2_with fail
      refine HI.out.mono ?_
      rintro r w' ⟨rfl, rfl⟩
      go_wp2_with fail
      refine wp_region_cut_held (fun w' => w'.cell? ⟨fb, 0, none⟩ = some (.slice (some ⟨g, 0, none⟩) n cap) ∧ w'.heap[B]? = some (.cells S 29 (0, 0)) ∧ w'.rangeAt g (c * 19 + 1) M.toList) 10 (by kernel_rfl) (by kernel_rfl) ⟨HF.out.c0, HSB.out, HM.out⟩ (fun hHeld => ?_)
      simp only [List.take_succ_cons, List.take_zero]
      refine wpAnyH_take (i := 0) (v := .agg S) rfl (by kernel_rfl) (by kernel_rfl) (by kernel_rfl) (fun _ _ _ h => h) (Or.inl ⟨by rfl, ?hyl⟩) (by assumption) ?restl
      case hyl =>
        intro w hSw
        exact yields29 (.tmp 5) rfl B rfl hSw.2.1 v1
      simp only [Act.put, List.getElem_toArray, List.getElem_cons_succ, List.getElem_cons_zero, List.setIfInBounds_toArray, List.set_cons_succ, List.set_cons_zero]
      refine wpAnyH_take (i := 1) (v := ?va1) rfl (by kernel_rfl) (by kernel_rfl) (by kernel_rfl) (fun _ _ _ h => h) (Or.inl ⟨by rfl, ?hya1⟩) (by assumption) ?resta1
      case hya1 => (intro w hSw; (try dsimp only at hSw); go_simp) <;> with_reducible rfl
      simp only [Act.put, List.getElem_toArray, List.getElem_cons_succ, List.getElem_cons_zero, List.setIfInBounds_toArray, List.set_cons_succ, List.set_cons_zero]
      refine wpAnyH_take (i := 2) (v := ?va2) rfl (by kernel_rfl) (by kernel_rfl) (by kernel_rfl) (fun _ _ _ h => h) (Or.inl ⟨by rfl, ?hya2⟩) (by assumption) ?resta2
      case hya2 => (intro w hSw; (try dsimp only at hSw); go_simp) <;> with_reducible rfl
      simp only [Act.put, List.getElem_toArray, List.getElem_cons_succ, List.getElem_cons_zero, List.setIfInBounds_toArray, List.set_cons_succ, List.set_cons_zero]
      refine wpAnyH_take (i := 3) (v := ?va3) rfl (by kernel_rfl) (by kernel_rfl) (by kernel_rfl) (fun _ _ _ h => h) (Or.inl ⟨by rfl, ?hya3⟩) (by assumption) ?resta3
      case hya3 => (intro w hSw; (try dsimp only at hSw); go_simp) <;> with_reducible rfl
      simp only [Act.put, List.getElem_toArray, List.getElem_cons_succ, List.getElem_cons_zero, List.setIfInBounds_toArray, List.set_cons_succ, List.set_cons_zero]
      refine wpAnyH_take (i := 4) (v := ?va4) rfl (by kernel_rfl) (by kernel_rfl) (by kernel_rfl) (fun _ _ _ h => h) (Or.inl ⟨by rfl, ?hya4⟩) (by assumption) ?resta4
      case hya4 => (intro w hSw; (try dsimp only at hSw); go_simp) <;> with_reducible rfl
      simp only [Act.put, List.getElem_toArray, List.getElem_cons_succ, List.getElem_cons_zero, List.setIfInBounds_toArray, List.set_cons_succ, List.set_cons_zero]
      refine wpAnyH_take (i := 5) (v := ?va5) rfl (by kernel_rfl) (by kernel_rfl) (by kernel_rfl) (fun _ _ _ h => h) (Or.inl ⟨by rfl, ?hya5⟩) (by assumption) ?resta5
      case hya5 => (intro w hSw; (try dsimp only at hSw); go_simp) <;> with_reducible rfl
      simp only [Act.put, List.getElem_toArray, List.getElem_cons_succ, List.getElem_cons_zero, List.setIfInBounds_toArray, List.set_cons_succ, List.set_cons_zero]
      refine wpAnyH_take (i := 6) (v := ?va6) rfl (by kernel_rfl) (by kernel_rfl) (by kernel_rfl) (fun _ _ _ h => h) (Or.inl ⟨by rfl, ?hya6⟩) (by assumption) ?resta6
      case hya6 => (intro w hSw; (try dsimp only at hSw); go_simp) <;> with_reducible rfl
      simp only [Act.put, List.getElem_toArray, List.getElem_cons_succ, List.getElem_cons_zero, List.setIfInBounds_toArray, List.set_cons_succ, List.set_cons_zero]
      refine wpAnyH_take (i := 7) (v := ?va7) rfl (by kernel_rfl) (by kernel_rfl) (by kernel_rfl) (fun _ _ _ h => h) (Or.inl ⟨by rfl, ?hya7⟩) (by assumption) ?resta7
      case hya7 => (intro w hSw; (try dsimp only at hSw); go_simp) <;> with_reducible rfl
      simp only [Act.put, List.getElem_toArray, List.getElem_cons_succ, List.getElem_cons_zero, List.setIfInBounds_toArray, List.set_cons_succ, List.set_cons_zero]
      refine wpAnyH_take (i := 8) (v := .agg M) rfl (by kernel_rfl) (by kernel_rfl) (by kernel_rfl) (fun _ _ _ h => h) (Or.inl ⟨by rfl, ?hym⟩) (by assumption) ?restm
      case hym =>
        intro w hSw
        exact yields29m (.tmp 17) rfl g (c * 19 + 1) rfl hSw.2.2 m1
      simp only [Act.put, List.getElem_toArray, List.getElem_cons_succ, List.getElem_cons_zero, List.setIfInBounds_toArray, List.set_cons_succ, List.set_cons_zero]
      refine wpAnyH_ready (rs := [9]) (by kernel_rfl) (by simp) ?_
      refine AllReadyH.cons rfl (fun K hK => ?_) AllReadyH.nil
      go_simp
      refine (HAN.out _).mono ?_
      rintro e w4 ⟨rfl, hb4⟩
      have HB4 := Lib.hid (HB.out.drew.trans (hb4.mono (show w.heap.size ≤ wr.drew.heap.size from HB.out.size)))
      have HF4 := Lib.hid ((HF.out.drewN 1).below hb4)
      have HS4 := Lib.hid (show w4.heap[B]? = some (.cells S 29 (0, 0)) from (hb4.block B (show B < wr.heap.size from HS.out.lt)).trans HSB.out)
      have HA4 := Lib.hid (show w4.heap[A]? = some (.cells Z 29 (0, 0)) from (hb4.block A (show A < wr.heap.size from (Array.getElem?_eq_some_iff.1 HA.out).1)).trans HA.out)
      have HM4 := Lib.hid (show w4.rangeAt g (c * 19 + 1) M.toList from fun j v hv => (hb4.cell (p := ⟨g, _, none⟩) (show g < wr.heap.size from (HF.out.own.lt g rfl).2)).trans (HM.out j v hv))
      clear hb4
      refine hK.out _ _ ⟨HF4.out.c0, HS4.out, HM4.out⟩ (fun hHeld => ?_)
      clear hK K
      try simp only [Act.put, List.getElem_toArray, List.getElem_cons_succ, List.getElem_cons_zero, List.setIfInBounds_toArray, List.set_cons_succ, List.set_cons_zero]
      refine wpAnyH_done (by kernel_rfl) ?_ _
      simp only [headPost, List.drop_succ_cons, List.drop_zero]
      have HB5 := Lib.hid (below_setRow HB4.out HBB.out T)
      have HF5 := H.out.below HB5.out
      have k0 := HF5.c0
      have k2 := HF5.cell hc (o := 0) (by omega)
      rw [show buKind 0 = .i64 from rfl, Nat.add_zero] at k2
      have HA5 := Lib.hid (show (w4.setRow B T).heap[A]? = some (.cells Z 29 (0, 0)) from (setRow_other w4 B A T hAB).trans HA4.out)
      clear HF5
      go_wp2_with (refine wpList_store_row rfl 29 _ _ rfl B T rfl rfl 29 S HS4.out v2 v4 v3 ?_)
      go_roundw
      case rel => exact ⟨_, f, andW s (maskOf (bs c)), rfl, by omega, HRR.out, HFIN.out _ _ HTT.out HS4.out, HA5.out, HB5.out⟩
      case measure => simp only [intOf]; omega
    | false =>
      rw [hb] at HI
      rw [maskI_no hb] at hR
      have HSB := Lib.hid (show wr.heap[B]? = some (.cells U 29 (0, 0)) by rw [HUU.out, ← hR]; exact HS.out)
      clear hR hb HS
      go_wp2_with fail
      refine HI.out.mono ?_
      rintro r w' ⟨rfl, rfl⟩
      go_wp2_with (first | (refine wpList_load_row rfl 29 _ rfl B rfl 29 U (0, 0) _ HSB.out Try.underlying29 rfl t1 ?_) | (refine wpList_store_row rfl 29 _ _ rfl A U rfl rfl 29 Z HA.out t1 t3 t2 ?_))
      exact bodyPost_ret (results_c1 rfl _ _ A 29 U _ rfl (setRow_heap _ A Z U 29 (0, 0) HA.out) Try.underlying29 rfl t1) rfl ⟨rfl, below_setRow HB.out HAA.out _⟩
end
end Go.Proofs.Ytmbdhpibkhgkcaa
