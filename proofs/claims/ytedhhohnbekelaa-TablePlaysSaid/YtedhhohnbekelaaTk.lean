/- Whether both tables are alike. No condition. -/
import Derived.Test.YtedhhohnbekelaaTj
import Derived.Test.YtedhhohnbekelaaZ
namespace Go.Proofs.Ytedhhohnbekelaa
open Go.RowKit Go.Deep

set_option maxHeartbeats 1000000 in
set_option maxRecDepth 100000 in
theorem ne_tk_same (t : Tk) (w : World) : (binOp .neq 30 (tkV t) (tkV t)).run Try.prog w = .ok (.bool false) w := by
  unfold tkV
  rw [run_neq_struct, run_equalIn_agg w 9999 30 _ _ (by kernel_rfl) (by kernel_rfl)]
  have hf : (Try.prog.fieldsOf 30).toList = (match Try.prog.underlying 30 with | some (.struct fs) => fs.toList | _ => []) := by kernel_rfl
  rw [hf, Try.underlying30]
  simp [go_sem, Op.eqFields, tkArr, tkKind, Try.underlying25, Try.underlying28, Try.underlying3, Try.underlying21, Try.underlying26, eq_arr25, eq_arr28]

theorem cntL_succ (ts : Nat → Tk) (st : Int) (k : Nat) : cntL ts st (k + 1) = cntL ts st k + if ts k 25 = st then 1 else 0 := rfl

/-- At the head of alike's loop. -/
def AlikeAt (w1 : World) (ts : Nat → Tk) (st on : Int) (k : Nat) (a b : Value) (wr : World) : Prop :=
  b = .int .i64 (cntL ts st k) ∧ wr.ownsRow w1.heap.size 3 1 a (inL ts st on k).length (intsL (inL ts st on k)) ∧ Below w1.heap.size w1 wr

section
variable {w : World} {base tb c bn bl rb rs room n : Nat} {vn vl lv xl xw : Value} {ts : Nat → Tk} {R : Nat → List Nat} {W : List (Nat × Nat)}

set_option maxRecDepth 100000 in
set_option maxHeartbeats 4000000 in
theorem alike_any (hT : IsTab w base tb c bn bl vn vl lv n room ts R) (hR : IsRef w rb rs xl xw room ⟨n, ts, W⟩) (o : Opn) :
    Calls Try.prog 19 #[.pointer (some ⟨tb, 0, none⟩), .pointer (some ⟨rb, 0, none⟩), .agg (opArr o)] w fun r w' => r = .returned (.bool true) ∧ Below w.heap.size w w' := by
  have hm := hT.most
  obtain ⟨xa, xcap, hxl, hxg⟩ := hR.lvForm
  simp only at hxl hxg
  subst hxl
  have HXG := Lib.hid hxg
  have HT0 := Lib.hid (hT.alloc (.cells (opArr o) 37))
  have HR0 := Lib.hid (hR.alloc (.cells (opArr o) 37))
  have HO0 := Lib.hid (show OpAt (w.alloc (.cells (opArr o) 37)) w.heap.size o from heap_alloc_new _ _)
  have HB0 := Lib.hid ((Below.refl w.heap.size w).alloc (Nat.le_refl _) (.cells (opArr o) 37))
  clear hT hR hxg
  obtain ⟨OA, hOA⟩ : ∃ OA, OA = opArr o := ⟨_, rfl⟩
  rw [← hOA] at HT0 HR0 HO0 HB0
  rw [← hOA]
  clear hOA
  go_enter Try.func19, Try.ntmps19
  go_upto_region 1 with fail
  obtain ⟨A, hA⟩ : ∃ A, w.heap.size = A := ⟨_, rfl⟩
  obtain ⟨w1, hw1⟩ : ∃ w1, w.alloc (.cells OA 37) = w1 := ⟨_, rfl⟩
  rw [hA, hw1] at HO0
  rw [hw1] at HT0 HR0 HB0
  rw [hA, hw1]
  clear hw1 hA
  have HL := Lib.hid (TLen_any (HT0.out.drewN 1))
  refine wp_region_held_drew (S := fun w' => w'.cell? ⟨rb, 1, none⟩ = some (.slice xa n xcap)) (by kernel_rfl) HR0.out.c1 (fun hHeld => ?_)
  refine wpAnyH_take (i := 0) (v := ?va0) rfl (by kernel_rfl) (by kernel_rfl) (by kernel_rfl) (fun _ _ _ h => h) (Or.inl ⟨by rfl, ?hya0⟩) (by assumption) ?resta0
  case hya0 => (intro w hSw; (try dsimp only at hSw); go_simp) <;> with_reducible rfl
  simp only [Act.put, List.getElem_toArray, List.getElem_cons_succ, List.getElem_cons_zero, List.setIfInBounds_toArray, List.set_cons_succ, List.set_cons_zero]
  refine wpAnyH_take (i := 2) (v := ?va2) rfl (by kernel_rfl) (by kernel_rfl) (by kernel_rfl) (fun _ _ _ h => h) (Or.inl ⟨by rfl, ?hya2⟩) (by assumption) ?resta2
  case hya2 => (intro w hSw; (try dsimp only at hSw); go_simp) <;> with_reducible rfl
  simp only [Act.put, List.getElem_toArray, List.getElem_cons_succ, List.getElem_cons_zero, List.setIfInBounds_toArray, List.set_cons_succ, List.set_cons_zero]
  refine wpAnyH_take (i := 3) (v := ?va3) rfl (by kernel_rfl) (by kernel_rfl) (by kernel_rfl) (fun _ _ _ h => h) (Or.inl ⟨by rfl, ?hya3⟩) (by assumption) ?resta3
  case hya3 => (intro w hSw; (try dsimp only at hSw); go_simp) <;> with_reducible rfl
  simp only [Act.put, List.getElem_toArray, List.getElem_cons_succ, List.getElem_cons_zero, List.setIfInBounds_toArray, List.set_cons_succ, List.set_cons_zero]
  refine wpAnyH_take (i := 4) (v := ?va4) rfl (by kernel_rfl) (by kernel_rfl) (by kernel_rfl) (fun _ _ _ h => h) (Or.inl ⟨by rfl, ?hya4⟩) (by assumption) ?resta4
  case hya4 => (intro w hSw; (try dsimp only at hSw); go_simp) <;> with_reducible rfl
  simp only [Act.put, List.getElem_toArray, List.getElem_cons_succ, List.getElem_cons_zero, List.setIfInBounds_toArray, List.set_cons_succ, List.set_cons_zero]
  refine wpAnyH_take (i := 5) (v := ?va5) rfl (by kernel_rfl) (by kernel_rfl) (by kernel_rfl) (fun _ _ _ h => h) (Or.inl ⟨by rfl, ?hya5⟩) (by assumption) ?resta5
  case hya5 => (intro w hSw; (try dsimp only at hSw); go_simp) <;> with_reducible rfl
  simp only [Act.put, List.getElem_toArray, List.getElem_cons_succ, List.getElem_cons_zero, List.setIfInBounds_toArray, List.set_cons_succ, List.set_cons_zero]
  refine wpAnyH_take (i := 6) (v := ?va6) rfl (by kernel_rfl) (by kernel_rfl) (by kernel_rfl) (fun _ _ _ h => h) (Or.inl ⟨by rfl, ?hya6⟩) (by assumption) ?resta6
  case hya6 => (intro w hSw; (try dsimp only at hSw); go_simp) <;> with_reducible rfl
  simp only [Act.put, List.getElem_toArray, List.getElem_cons_succ, List.getElem_cons_zero, List.setIfInBounds_toArray, List.set_cons_succ, List.set_cons_zero]
  refine wpAnyH_ready (rs := [1]) (by kernel_rfl) (by simp) ?_
  refine AllReadyH.cons rfl (fun K hK => ?_) AllReadyH.nil
  go_simp
  refine HL.out.mono ?_
  rintro e w' ⟨rfl, rfl⟩
  refine hK.out _ _ HR0.out.c1 (fun hHeld => ?_)
  clear hK K
  try simp only [Act.put, List.getElem_toArray, List.getElem_cons_succ, List.getElem_cons_zero, List.setIfInBounds_toArray, List.set_cons_succ, List.set_cons_zero]
  refine wpAnyH_take (i := 7) (v := ?vz7) rfl (by kernel_rfl) (by kernel_rfl) (by kernel_rfl) (fun _ _ _ h => h) (Or.inl ⟨by rfl, ?hyz7⟩) (by assumption) ?restz7
  case hyz7 => (intro w hSw; (try dsimp only at hSw); go_simp) <;> with_reducible rfl
  simp only [Act.put, List.getElem_toArray, List.getElem_cons_succ, List.getElem_cons_zero, List.setIfInBounds_toArray, List.set_cons_succ, List.set_cons_zero]
  refine wpAnyH_done (by kernel_rfl) ?_ _
  obtain ⟨w2, hw2⟩ : ∃ w2, w1.drewN 1 = w2 := ⟨_, rfl⟩
  have HT := Lib.hid (show IsTab w2 base tb c bn bl vn vl lv n room ts R by rw [← hw2]; exact HT0.out.drewN 1)
  have HR := Lib.hid (show IsRef w2 rb rs (.slice xa n xcap) xw room ⟨n, ts, W⟩ by rw [← hw2]; exact HR0.out.drewN 1)
  have HO := Lib.hid (show OpAt w2 A o by rw [← hw2]; exact HO0.out)
  have HB := Lib.hid (show Below w.heap.size w w2 by rw [← hw2]; exact Below.drewN HB0.out 1)
  rw [hw2]
  clear hw2 HT0 HR0 HO0 HB0 HL
  have c1 := HR.out.c1
  go_wp2_with fail
  obtain ⟨i3, I3, Z3, S3, B3⟩ := info_parts Try.info3i
  have I3 := Lib.hid I3
  have Z3 := Lib.hid Z3
  have S3 := Lib.hid S3
  have B3 := Lib.hid B3
  have hz := zero30
  have z1 := size30 tk0
  have z2 := one30 tk0
  have HG := Lib.hid (fun (w' : World) (hB : Below w2.heap.size w2 w') (i : Int) => TGet_any (HT.out.below (hB.mono (Nat.le_refl _))) i)
  have HCE := Lib.hid (fun (w' : World) (hB : Below w2.heap.size w2 w') => show w'.cell? ⟨A, 26, none⟩ = some (.int .i64 (o.x 25)) ∧ w'.cell? ⟨A, 27, none⟩ = some (.int .i64 (o.x 26)) ∧ A < w'.heap.size from by
    have h1 : w'.heap[A]? = some (.cells (opArr o) 37 (0, 0)) := (hB.block A HO.out.lt).trans HO.out
    exact ⟨cell_of h1 (by rw [opArr_t o (j := 25) (by omega), tkArr_at _ (by omega)]; rfl), cell_of h1 (by rw [opArr_t o (j := 26) (by omega), tkArr_at _ (by omega)]; rfl), (Array.getElem?_eq_some_iff.1 h1).1⟩)
  obtain ⟨st, hst⟩ : ∃ st, o.x 25 = st := ⟨_, rfl⟩
  obtain ⟨on, hon⟩ : ∃ on, o.x 26 = on := ⟨_, rfl⟩
  rw [hst, hon] at HCE
  clear hst hon
  unfold tkV at HG
  obtain ⟨Z, hZ⟩ : ∃ Z, Z = tkArr tk0 := ⟨_, rfl⟩
  simp only [← hZ] at hz
  rw [← hZ] at z1 z2
  have HZ := Lib.hid hZ
  clear hZ
  go_loopw [7, 8, 30] (fun a b s wr => ∃ k : Nat, k ≤ n ∧ s = .int .i64 k ∧ AlikeAt w2 ts st on k a b wr) (fun _ _ s _ => n - (intOf s).toNat)
  case atStart => exact ⟨0, Nat.zero_le _, rfl, rfl, World.ownsRow_nil _ _ _ _, Below.refl _ _⟩
  case round =>
    obtain ⟨k, hk, rfl, rfl, hown, hBr⟩ := hrel
    have hcl := cntL_le ts st k
    have hil := inL_len ts st on k
    have HOW := Lib.hid hown
    have HBr := Lib.hid hBr
    clear hown hBr
    by_cases hlt : k < n
    · have hltI : (k : Int) < n := by omega
      obtain ⟨gx, rfl⟩ := HXG.out (by omega)
      have HRG := Lib.hid ((HR.out.below HBr.out).range (e := ⟨n, ts, W⟩) hlt)
      have s1 : (Try.prog.info? 30).map (·.size) = some (tkArr (ts k)).toList.length := by rw [Array.length_toList]; exact size30 _
      have s2 := size30 (ts k)
      have s3 := one30 (ts k)
      have s4 : Z.size = (tkArr (ts k)).size := by rw [HZ.out, tkArr_size, tkArr_size]
      have hNE := fun w => ne_tk_same (ts k) w
      have y25 : (tkArr (ts k))[25]? = some (.int .i64 (ts k 25)) := tkArr_at _ (by omega)
      have y26 : (tkArr (ts k))[26]? = some (.int .i64 (ts k 26)) := tkArr_at _ (by omega)
      have hgd : getD n ts (k : Int) = (true, ts k) := by unfold getD; rw [if_pos ⟨by omega, hltI⟩, Int.toNat_natCast]
      have HGK := Lib.hid (fun (w' : World) (hB : Below w2.heap.size w2 w') => HG.out w' hB k)
      rw [hgd] at HGK
      have HCS := Lib.hid (cntL_succ ts st k)
      have HIS := Lib.hid (inL_succ ts st on k)
      unfold tkV at hNE
      unfold isAt at HIS
      generalize hY : tkArr (ts k) = Y at *
      clear hY hgd c1
      generalize ts k 25 = ys at *
      generalize ts k 26 = yo at *
      go_upto_region 8 with (first | (refine wpList_load_mid rfl 30 _ rfl gx (k * 29) rfl Y.toList _ HRG.out Try.underlying30 rfl s1 ?_; rw [Array.toArray_toList]) | (refine wpList_store_row rfl 30 _ _ rfl wr.heap.size Y rfl rfl 30 Z (heap_alloc_new _ _) s2 s4 s3 ?_; rw [setRow_new]))
      obtain ⟨w3, hw3⟩ : ∃ w3, wr.alloc (.cells Y 30) = w3 := ⟨_, rfl⟩
      obtain ⟨C, hC⟩ : ∃ C, wr.heap.size = C := ⟨_, rfl⟩
      have HB3 := Lib.hid (show Below w2.heap.size w2 w3 by rw [← hw3]; exact HBr.out.alloc HBr.out.size _)
      have HOW3 := Lib.hid (show w3.ownsRow w2.heap.size 3 1 u7 (inL ts st on k).length (intsL (inL ts st on k)) by rw [← hw3]; exact HOW.out.alloc _)
      have HC3 := Lib.hid (show w3.heap[C]? = some (.cells Y 30 (0, 0)) by rw [← hw3, ← hC]; exact heap_alloc_new _ _)
      rw [hw3, hC]
      clear hw3 hC HBr HOW HRG
      go_wp2_with fail
      refine (HGK.out _ HB3.out).mono ?_
      rintro e w4 ⟨rfl, hb⟩
      have HB4 := Lib.hid (HB3.out.trans (hb.mono HB3.out.size))
      have HC4 := Lib.hid ((hb.block C (Array.getElem?_eq_some_iff.1 HC3.out).1).trans HC3.out)
      have HOW4 := Lib.hid (show w4.ownsRow w2.heap.size 3 1 u7 (inL ts st on k).length (intsL (inL ts st on k)) from own_of_heap HOW3.out fun j hj => hb.block j (HOW3.out.lt j hj).2)
      clear hb HB3 HC3 HOW3 HGK
      go_upto_region 9 with (refine wpList_store_row rfl 30 _ _ rfl w4.heap.size Y rfl rfl 30 Z (heap_alloc_new _ _) s2 s4 s3 ?_; rw [setRow_new])
      obtain ⟨w5, hw5⟩ : ∃ w5, w4.alloc (.cells Y 30) = w5 := ⟨_, rfl⟩
      obtain ⟨D, hD⟩ : ∃ D, w4.heap.size = D := ⟨_, rfl⟩
      have HB5 := Lib.hid (show Below w2.heap.size w2 w5 by rw [← hw5]; exact HB4.out.alloc HB4.out.size _)
      have HOW5 := Lib.hid (show w5.ownsRow w2.heap.size 3 1 u7 (inL ts st on k).length (intsL (inL ts st on k)) by rw [← hw5]; exact HOW4.out.alloc _)
      have HD5 := Lib.hid (show w5.heap[D]? = some (.cells Y 30 (0, 0)) by rw [← hw5, ← hD]; exact heap_alloc_new _ _)
      have HC5 := Lib.hid (show w5.heap[C]? = some (.cells Y 30 (0, 0)) by rw [← hw5, heap_alloc_old _ _ (Array.getElem?_eq_some_iff.1 HC4.out).1]; exact HC4.out)
      rw [hw5, hD]
      clear hw5 hD HB4 HOW4 HC4
      obtain ⟨a1, a2, -⟩ := HCE.out _ HB5.out
      have b1 := cell_of HC5.out y25
      have b2 := cell_of HC5.out y26
      go_upto_region 11 with (first | (refine wpList_load_want 30 (.tmp 11) rfl D rfl 30 Y (0, 0) _ HD5.out Try.underlying30 rfl s2 (by first | rfl | simp [Region.wanted, yielded]) ?_) | (refine wpList_load_want 30 (.tmp 10) rfl C rfl 30 Y (0, 0) _ HC5.out Try.underlying30 rfl s2 (by first | rfl | simp [Region.wanted, yielded]) ?_))
      clear hNE s1 s2 s3 s4 y25 y26 HC5 HD5
      by_cases hx : ys = st
      · rw [if_pos hx] at HCS
        have n7 : (ys == st) = true := by simpa using hx
        by_cases hy : yo = on
        · have n8 : (yo == on) = true := by simpa using hy
          rw [n7, n8] at HIS
          simp only [Bool.and_self, if_true, ite_true] at HIS
          clear hx hy
          go_wp2_with (at_builtin; refine wpList_append_srcN rfl _ _ 54 rfl w2.heap.size 3 i3 _ 1 8 Try.underlying54 I3.out Z3.out S3.out B3.out rfl (by decide) rfl (HOW5.out.alloc _) rfl (src_new1 w5 _ 3) (by simp [Value.oneCell']) (by simp only [maxLen]; omega) (by omega) (HB5.out.alloc HB5.out.size (.cells #[.int .i64 k] 3)).size ?_; intro v' w6 hown' hgrow _; rw [intsL_more] at hown'; have HB6 := Lib.hid ((HB5.out.alloc HB5.out.size (.cells #[.int .i64 k] 3)).grown hgrow (HB5.out.alloc HB5.out.size (.cells #[.int .i64 k] 3)).size (fun j hj => (HOW5.out.lt j hj).1)); have HOW6 := Lib.hid hown'; clear hown' hgrow)
          go_roundw
          case rel => exact ⟨k + 1, by omega, by go_num, by rw [HCS.out]; go_num, by rw [HIS.out, List.length_append]; exact HOW6.out, HB6.out⟩
          case measure => simp [intOf]; omega
        · have n8 : (yo == on) = false := by simpa using hy
          rw [n7, n8] at HIS
          simp only [Bool.and_false, Bool.false_eq_true, if_false, ite_false] at HIS
          clear hx hy
          go_wp2_with fail
          go_roundw
          case rel => exact ⟨k + 1, by omega, by go_num, by rw [HCS.out]; go_num, by rw [HIS.out]; exact HOW5.out, HB5.out⟩
          case measure => simp [intOf]; omega
      · rw [if_neg hx, Nat.add_zero] at HCS
        have n7 : (ys == st) = false := by simpa using hx
        rw [n7] at HIS
        simp only [Bool.false_and, Bool.false_eq_true, if_false, ite_false] at HIS
        clear hx
        go_wp2_with fail
        go_roundw
        case rel => exact ⟨k + 1, by omega, by go_num, by rw [HCS.out]; rfl, by rw [HIS.out]; exact HOW5.out, HB5.out⟩
        case measure => simp [intOf]; omega
    · obtain rfl : k = n := by omega
      clear hlt
      have HG1 := Lib.hid (HG.out _ HBr.out (-1))
      rw [show getD k ts (-1) = (false, tk0) by unfold getD; rw [if_neg (by omega)]] at HG1
      have HG2 := Lib.hid (fun (w' : World) (hB : Below w2.heap.size w2 w') => HG.out w' hB k)
      rw [show getD k ts (k : Int) = (false, tk0) by unfold getD; rw [if_neg (by omega)]] at HG2
      rw [← HZ.out] at HG1 HG2
      clear c1 HG
      go_wp2_with fail
      refine HG1.out.mono ?_
      rintro e w3 ⟨rfl, hb⟩
      have HB3 := Lib.hid (HBr.out.trans (hb.mono HBr.out.size))
      have HOW3 := Lib.hid (show w3.ownsRow w2.heap.size 3 1 u7 (inL ts st on k).length (intsL (inL ts st on k)) from own_of_heap HOW.out fun j hj => hb.block j (HOW.out.lt j hj).2)
      clear hb HBr HOW HG1
      go_upto_region 17 with (refine wpList_store_row rfl 30 _ _ rfl w3.heap.size Z rfl rfl 30 Z (heap_alloc_new _ _) z1 rfl z2 ?_; rw [setRow_new])
      obtain ⟨w4, hw4⟩ : ∃ w4, w3.alloc (.cells Z 30) = w4 := ⟨_, rfl⟩
      have HB4 := Lib.hid (show Below w2.heap.size w2 w4 by rw [← hw4]; exact HB3.out.alloc HB3.out.size _)
      have HOW4 := Lib.hid (show w4.ownsRow w2.heap.size 3 1 u7 (inL ts st on k).length (intsL (inL ts st on k)) by rw [← hw4]; exact HOW3.out.alloc _)
      rw [hw4]
      clear hw4 HB3 HOW3
      have c1 := (HR.out.below HB4.out).c1
      go_wp2_with fail
      refine (HG2.out _ HB4.out).mono ?_
      rintro e w5 ⟨rfl, hb⟩
      have HB5 := Lib.hid (HB4.out.trans (hb.mono HB4.out.size))
      have HOW5 := Lib.hid (show w5.ownsRow w2.heap.size 3 1 u7 (inL ts st on k).length (intsL (inL ts st on k)) from own_of_heap HOW4.out fun j hj => hb.block j (HOW4.out.lt j hj).2)
      clear hb HB4 HOW4 HG2 c1
      go_upto_region 18 with (refine wpList_store_row rfl 30 _ _ rfl w5.heap.size Z rfl rfl 30 Z (heap_alloc_new _ _) z1 rfl z2 ?_; rw [setRow_new])
      obtain ⟨w6, hw6⟩ : ∃ w6, w5.alloc (.cells Z 30) = w6 := ⟨_, rfl⟩
      have HB6 := Lib.hid (show Below w2.heap.size w2 w6 by rw [← hw6]; exact HB5.out.alloc HB5.out.size _)
      have HOW6 := Lib.hid (show w6.ownsRow w2.heap.size 3 1 u7 (inL ts st on k).length (intsL (inL ts st on k)) by rw [← hw6]; exact HOW5.out.alloc _)
      rw [hw6]
      clear hw6 HB5 HOW5 hz z1 z2
      obtain ⟨a1, a2, -⟩ := HCE.out _ HB6.out
      go_wp2_with fail
      refine (TIn_any (HT.out.below HB6.out) st on).mono ?_
      rintro e w7 ⟨v, rfl, hv, hb⟩
      have HB7 := Lib.hid (HB6.out.trans (hb.mono HB6.out.size))
      have HOW7 := Lib.hid (show w7.ownsRow w2.heap.size 3 1 u7 (inL ts st on k).length (intsL (inL ts st on k)) from own_of_heap HOW6.out fun j hj => hb.block j (HOW6.out.lt j hj).2)
      have HV7 := Lib.hid hv
      clear hb hv HB6 HOW6 a1 a2
      go_wp2_with fail
      refine (Same_eq (SlL.own HV7.out) (SlL.own HOW7.out) (by omega)).mono ?_
      rintro e w8 ⟨rfl, q, rfl⟩
      have HB8 := Lib.hid (Go.Proofs.Ytedhhohnbekelaa.Below.drewN HB7.out q)
      obtain ⟨w8, hw8⟩ : ∃ w8, w7.drewN q = w8 := ⟨_, rfl⟩
      rw [hw8] at HB8 ⊢
      clear hw8 HB7 HOW7 HV7
      obtain ⟨a1, a2, -⟩ := HCE.out _ HB8.out
      go_wp2_with fail
      refine (TCount_any (HT.out.below HB8.out) st).mono ?_
      rintro e w' ⟨rfl, rfl⟩
      go_wp2_with fail
      go_ret
      exact ⟨rfl, HB.out.trans (HB8.out.mono HB.out.size)⟩
end
end Go.Proofs.Ytedhhohnbekelaa
