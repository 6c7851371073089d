/- BubbleMasks: the walk. No condition. -/
import Derived.Test.YtmbdhpibkhgkcaaZh
import Derived.Test.YtmbdhpibkhgkcaaZi
import Derived.Test.YtmbdhpibkhgkcaaZe
namespace Go.Proofs.Ytmbdhpibkhgkcaa
open Go.RowKit

/-- The sets that a drawn region has made so far. -/
structure Al (w0 w : World) (Z : Array Value) (gs : List Nat) : Prop where
  bel : Below w0.heap.size w0 w
  nd : gs.Nodup
  all : ∀ g ∈ gs, w0.heap.size ≤ g ∧ w.heap[g]? = some (.cells Z 29 (0, 0))
section
variable {w0 w w' : World} {Z : Array Value} {gs l1 l2 : List Nat}
theorem Al.lt (h : Al w0 w Z gs) {g : Nat} (hg : g ∈ gs) : g < w.heap.size := (Array.getElem?_eq_some_iff.1 (h.all g hg).2).1
theorem Al.keep (h : Al w0 w Z gs) (hb : Below w.heap.size w w') : Al w0 w' Z gs :=
  ⟨h.bel.trans (hb.mono h.bel.size), h.nd, fun g hg => ⟨(h.all g hg).1, (hb.block g (h.lt hg)).trans (h.all g hg).2⟩⟩
theorem Al.new (h : Al w0 w Z (l1 ++ l2)) : Al w0 (w.alloc (.cells Z 29)) Z (l1 ++ w.heap.size :: l2) := by
  refine ⟨h.bel.alloc h.bel.size _, (List.perm_middle.nodup_iff).2 (List.nodup_cons.2 ⟨fun hm => Nat.lt_irrefl _ (h.lt hm), h.nd⟩), fun g hg => ?_⟩
  have hg' : g = w.heap.size ∨ g ∈ l1 ++ l2 := by simpa [or_left_comm] using hg
  rcases hg' with rfl | hg'
  · exact ⟨h.bel.size, heap_alloc_new _ _⟩
  · exact ⟨(h.all g hg').1, (heap_alloc_old _ _ (h.lt hg')).trans (h.all g hg').2⟩
end

/-- The region's operations, what follows and the slots are named. -/
theorem openH {P : Program} {md : Region.Mode} {ops : Array Oper} {Q : Exit → Act → World → Prop} {S : World → Prop} {fuel : Nat} {listed : Array Bool} {a : Act} {w : World}
    (K : ∀ ops', Hid (ops' = ops) → ∀ Q', Hid (Q' = Q) → ∀ a', Hid (a' = a) → wpAnyH P md ops' Q' S fuel listed a' w) : wpAnyH P md ops Q S fuel listed a w := K _ (Lib.hid rfl) _ (Lib.hid rfl) _ (Lib.hid rfl)

theorem step_alloc29 {ops : Array Oper} {o : Oper} {a : Act} {w : World} {K : Act → World → Prop} {Q : Exit → Act → World → Prop} {E : Prop} {Z : Array Value}
    (hz : ∀ w, (zeroValue 29).run Try.prog w = .ok (.agg Z) w) (hgd : o.guard = none) (ho : o.op = .alloc 29) (h : K (a.put o.dst (.pointer (some ⟨w.heap.size, 0, none⟩))) (w.alloc (.cells Z 29))) :
    if Region.wanted o (yielded ops a.tmps) = true then Oper.wp Try.prog o a w K Q else E := by
  have hw : Region.wanted o (yielded ops a.tmps) = true := by simp [Region.wanted, hgd]
  rw [if_pos hw]
  unfold Oper.wp
  simp only [execOp, ho]
  go_simp
  exact h
theorem step_store29 {ops : Array Oper} {o : Oper} {a : Act} {w : World} {K : Act → World → Prop} {Q : Exit → Act → World → Prop} {E : Prop}
    (hgd : o.guard = none) (x y : Operand) (ho : o.op = .store 29 x y) (g : Nat) (V : Array Value) (hx : a.eval x = .pointer (some ⟨g, 0, none⟩)) (hy : a.eval y = .agg V) (old : Array Value)
    (hg : w.heap[g]? = some (.cells old 29 (0, 0))) (hi : (Try.prog.info? 29).map (·.size) = some V.size) (hold : old.size = V.size) (h1 : V.all (·.oneCell') = true)
    (h : K (a.put o.dst undef) (w.setRow g V)) : if Region.wanted o (yielded ops a.tmps) = true then Oper.wp Try.prog o a w K Q else E := by
  have hw : Region.wanted o (yielded ops a.tmps) = true := by simp [Region.wanted, hgd]
  rw [if_pos hw]
  exact wp_store_row 29 x y ho g V hx hy 29 old hg hi hold h1 h

set_option maxRecDepth 100000 in
set_option maxHeartbeats 8000000 in
theorem bmasks_any (a : Option Addr) (len cap0 : Nat) (e : Nat → Opn) (w : World) (ha : SlOk a len cap0) (hI : RawO w a len e) :
    Calls Try.prog 5 #[.slice a len cap0] w fun r w' => r = .returned (.bool true) ∧ Below w.heap.size w w' := by
  have HRUN := Lib.hid (run_any a len cap0 e w ha hI)
  have hinn0 := inn_run e (min len 40)
  generalize runD e (min len 40) = q at HRUN hinn0
  obtain ⟨n, bs⟩ := q
  simp only at hinn0
  have HI := Lib.hid hinn0
  have zz := zero35
  have z9 := zero29
  have HNE := fun w => neq_ws ws0 ws0 w
  rw [eqW_self] at HNE
  unfold wsV at HNE
  obtain ⟨Z, hZ⟩ : ∃ Z, Z = buArr bk0 := ⟨_, rfl⟩
  have zs : Z.size = 19 := by rw [hZ]; exact buArr_size _
  simp only [← hZ] at zz
  obtain ⟨Z9, hZ9⟩ : ∃ Z9, Z9 = wsArr ws0 := ⟨_, rfl⟩
  simp only [← hZ9] at z9 HNE
  have HZ9 := Lib.hid z9
  have HZZ := Lib.hid hZ9
  clear hZ ha hI hinn0 hZ9 z9
  go_enter Try.func5, Try.ntmps5
  go_wp2_with fail
  refine HRUN.out.mono ?_
  rintro r w1 ⟨base, fb, lv, rfl, hfb, hT, hB⟩
  simp only at hT
  have HT1 := Lib.hid hT
  have HB1 := Lib.hid hB
  have hmost : n ≤ 32 := hT.most
  clear hT hB hfb HRUN
  go_wp2_with fail
  go_loopw [19] (fun s wr => ∃ k : Nat, k ≤ n ∧ s = .int .i64 k ∧ Below w1.heap.size w1 wr) (fun s _ => n - (intOf s).toNat)
  case atStart => exact ⟨0, Nat.zero_le _, rfl, Below.refl _ _⟩
  case round =>
    obtain ⟨k, hk, rfl, hBk⟩ := hrel
    have HBk := Lib.hid hBk
    clear hBk
    by_cases hlt : k < n
    · have hltI : (k : Int) < n := by omega
      have HGET := Lib.hid (FGet_any (HT1.out.below HBk.out) k)
      rw [show getD n bs (k : Int) = (true, bs k) by unfold getD; rw [if_pos ⟨by omega, by omega⟩, Int.toNat_natCast]] at HGET
      have hups := HI.out.1 k hlt
      have s1 := size35 (bs k)
      have s2 := one35 (bs k)
      have s3 : Z.size = (buArr (bs k)).size := by rw [zs, buArr_size]
      have K0 := Lib.hid (fun (w' : World) (A : Nat) (h : w'.heap[A]? = some (.cells (buArr (bs k)) 35 (0, 0))) => show w'.cell? ⟨A, 0, none⟩ = some (.int .i64 (bs k 0)) ∧ w'.cell? ⟨A, 17, none⟩ = some (.int .i64 (bs k 17)) from ⟨cell_of h (buArr_at _ (by omega)), cell_of h (buArr_at _ (by omega))⟩)
      unfold buV at HGET
      obtain ⟨U, hU⟩ : ∃ U, U = buArr (bs k) := ⟨_, rfl⟩
      simp only [← hU] at s1 s2 s3 HGET K0
      clear hU
      go_wp2_with fail
      refine HGET.out.mono ?_
      rintro r w2 ⟨rfl, hb2⟩
      have HB2 := Lib.hid (HBk.out.trans (hb2.mono HBk.out.size))
      clear hb2 HGET HBk
      go_upto_region 6 with (refine wpList_store_row rfl 35 _ _ rfl w2.heap.size U rfl rfl 35 Z (heap_alloc_new _ _) s1 s3 s2 ?_; rw [setRow_new])
      obtain ⟨w3, hw3⟩ : ∃ w3, w2.alloc (.cells U 35) = w3 := ⟨_, rfl⟩
      obtain ⟨A, hA⟩ : ∃ A, w2.heap.size = A := ⟨_, rfl⟩
      have HA3 := Lib.hid (show w3.heap[A]? = some (.cells U 35 (0, 0)) by rw [← hw3, ← hA]; exact heap_alloc_new _ _)
      have HB3 := Lib.hid (show Below w1.heap.size w1 w3 by rw [← hw3]; exact HB2.out.alloc HB2.out.size _)
      rw [hw3, hA]
      clear hw3 hA HB2
      obtain ⟨c0, c17⟩ := K0.out _ _ HA3.out
      clear K0 s1 s2 s3
      by_cases h0 : bs k 0 < 0
      · generalize bs k 0 = u at *
        obtain ⟨hu1, hu2⟩ := hups
        have hu3 : ¬ (k : Int) ≤ u := by omega
        go_wp2_with fail
        go_roundw
        case rel => exact ⟨k + 1, by omega, by go_num, HB3.out⟩
        case measure => simp [intOf]; omega
      · obtain ⟨p, hp⟩ := Int.eq_ofNat_of_zero_le (show 0 ≤ bs k 0 by omega)
        have hpk : p < k := by omega
        have hpn : p < n := by omega
        have HINN := HI.out.2 k hlt (by omega)
        have HONE := only_none HI.out.1 hlt (show 0 ≤ bs k 0 by omega) 1024
        rw [hp] at c0 HINN HONE
        rw [Int.toNat_natCast] at HINN
        have HINN := Lib.hid HINN
        have HGET := Lib.hid (FGet_any (HT1.out.below HB3.out) (p : Nat))
        rw [show getD n bs (p : Int) = (true, bs p) by unfold getD; rw [if_pos ⟨by omega, by omega⟩, Int.toNat_natCast]] at HGET
        have t1 := size35 (bs p)
        have t2 := one35 (bs p)
        have t3 : Z.size = (buArr (bs p)).size := by rw [zs, buArr_size]
        have K0 := Lib.hid (fun (w' : World) (A : Nat) (h : w'.heap[A]? = some (.cells (buArr (bs p)) 35 (0, 0))) => show w'.cell? ⟨A, 17, none⟩ = some (.int .i64 (bs p 17)) from cell_of h (buArr_at _ (by omega)))
        have HX1 := Lib.hid (fun (w' : World) (h : Below w1.heap.size w1 w') => FMask_any (HT1.out.below h) (k : Nat))
        have HX2 := Lib.hid (fun (w' : World) (h : Below w1.heap.size w1 w') => FMask_any (HT1.out.below h) (p : Nat))
        have HX3 := Lib.hid (fun (w' : World) => Three_any (maskD n bs k) (maskD n bs p) (fun o _ => (mask_in_range n bs k o).1) (fun o _ => (mask_in_range n bs p o).1) w')
        have HONE2 := Lib.hid (show mkW (fil (fO (maskD n bs k) (maskD n bs p)) 1024) = ws0 by rw [show fil (fO (maskD n bs k) (maskD n bs p)) 1024 = [] from HONE]; rfl)
        have y1 := size29 (mkW (fil (fB (maskD n bs k) (maskD n bs p)) 1024))
        have y2 := size29 (mkW (fil (fE (maskD n bs k) (maskD n bs p)) 1024))
        have y3 := size29 ws0
        have o1 := one29 (mkW (fil (fB (maskD n bs k) (maskD n bs p)) 1024))
        have o2 := one29 (mkW (fil (fE (maskD n bs k) (maskD n bs p)) 1024))
        have o3 := one29 ws0
        have q1 : Z9.size = (wsArr (mkW (fil (fB (maskD n bs k) (maskD n bs p)) 1024))).size := by rw [HZZ.out, wsArr_size, wsArr_size]
        have q2 : Z9.size = (wsArr (mkW (fil (fE (maskD n bs k) (maskD n bs p)) 1024))).size := by rw [HZZ.out, wsArr_size, wsArr_size]
        unfold ThreeTo at HX3
        rw [HONE2.out] at HX3
        unfold wsV at HX1 HX2 HX3
        rw [← HZZ.out] at y3 o3 HX3
        obtain ⟨V1, hV1⟩ : ∃ V, wsArr (mkW (fil (fB (maskD n bs k) (maskD n bs p)) 1024)) = V := ⟨_, rfl⟩
        obtain ⟨V2, hV2⟩ : ∃ V, wsArr (mkW (fil (fE (maskD n bs k) (maskD n bs p)) 1024)) = V := ⟨_, rfl⟩
        simp only [hV1] at HX3 y1 o1 q1
        simp only [hV2] at HX3 y2 o2 q2
        clear hV1 hV2 HONE HONE2
        obtain ⟨M1, hM1⟩ : ∃ M, wsArr (maskD n bs (k : Nat)) = M := ⟨_, rfl⟩
        obtain ⟨M2, hM2⟩ : ∃ M, wsArr (maskD n bs (p : Nat)) = M := ⟨_, rfl⟩
        simp only [hM1] at HX1 HX3
        simp only [hM2] at HX2 HX3
        clear hM1 hM2
        unfold buV at HGET
        obtain ⟨U2, hU⟩ : ∃ U, U = buArr (bs p) := ⟨_, rfl⟩
        simp only [← hU] at t1 t2 t3 HGET K0
        clear hU
        obtain ⟨sA, hsA⟩ : ∃ x, bs k 17 = x := ⟨_, rfl⟩
        obtain ⟨sB, hsB⟩ : ∃ x, bs p 17 = x := ⟨_, rfl⟩
        rw [hsA] at HINN c17
        rw [hsB] at HINN K0
        have hu3 : ¬ (k : Int) ≤ (p : Int) := by omega
        have hu4 : ¬ (p : Int) < 0 := by omega
        clear hsA hsB hp h0 hups
        go_wp2_with fail
        refine HGET.out.mono ?_
        rintro r w4 ⟨rfl, hb4⟩
        have HB4 := Lib.hid (HB3.out.trans (hb4.mono HB3.out.size))
        have HA4 := Lib.hid (And.intro ((hb4.cell (p := ⟨A, 0, none⟩) (World.block_lt_of_cell? _ _ c0)).trans c0) ((hb4.cell (p := ⟨A, 17, none⟩) (World.block_lt_of_cell? _ _ c17)).trans c17))
        clear hb4 HGET HA3 c0 c17 HB3
        go_upto_region 10 with (refine wpList_store_row rfl 35 _ _ rfl w4.heap.size U2 rfl rfl 35 Z (heap_alloc_new _ _) t1 t3 t2 ?_; rw [setRow_new])
        obtain ⟨w5, hw5⟩ : ∃ w5, w4.alloc (.cells U2 35) = w5 := ⟨_, rfl⟩
        obtain ⟨B, hBB⟩ : ∃ B, w4.heap.size = B := ⟨_, rfl⟩
        have KB := Lib.hid (K0.out w5 B (by rw [← hw5, ← hBB]; exact heap_alloc_new _ _))
        have HB5 := Lib.hid (show Below w1.heap.size w1 w5 by rw [← hw5]; exact HB4.out.alloc HB4.out.size _)
        have hA5 : w5.cell? ⟨A, 0, none⟩ = some (.int .i64 (p : Nat)) ∧ w5.cell? ⟨A, 17, none⟩ = some (.int .i64 sA) := by
          have hb : Below w4.heap.size w4 w5 := by rw [← hw5]; exact (Below.refl _ _).alloc (Nat.le_refl _) _
          exact ⟨(hb.cell (p := ⟨A, 0, none⟩) (World.block_lt_of_cell? _ _ HA4.out.1)).trans HA4.out.1, (hb.cell (p := ⟨A, 17, none⟩) (World.block_lt_of_cell? _ _ HA4.out.2)).trans HA4.out.2⟩
        have KA := Lib.hid hA5.2
        have KS := Lib.hid (fun (w' : World) (hb : Below w5.heap.size w5 w') => show w'.cell? ⟨A, 0, none⟩ = some (.int .i64 (p : Nat)) from (hb.cell (p := ⟨A, 0, none⟩) (World.block_lt_of_cell? _ _ hA5.1)).trans hA5.1)
        have HM1 := Lib.hid (fun (w' : World) (hb : Below w5.heap.size w5 w') => HX1.out w' (HB5.out.trans (hb.mono HB5.out.size)))
        have HM2 := Lib.hid (fun (w' : World) (hb : Below w5.heap.size w5 w') => HX2.out w' (HB5.out.trans (hb.mono HB5.out.size)))
        have HM3 := Lib.hid (fun (w' : World) (hb : Below w5.heap.size w5 w') => HX3.out w')
        rw [hw5, hBB]
        clear hw5 hBB HB4 HA4 K0 t1 t2 t3 hA5 HX1 HX2 HX3 zz zs
        refine wp_region_held_drew (S := (fun w' => w'.cell? ⟨A, 0, none⟩ = some (.int .i64 (p : Nat)))) (by kernel_rfl) (KS.out _ (Below.refl _ _).drew) (fun hHeld => ?_)
        refine wpAnyH_take (i := 0) (v := ?vm0) rfl (by kernel_rfl) (by kernel_rfl) (by kernel_rfl) (fun _ _ _ h => h) (Or.inl ⟨by rfl, ?hym0⟩) (by assumption) ?restm0
        case hym0 => (intro w hSw; (try dsimp only at hSw); go_simp) <;> with_reducible rfl
        simp only [Act.put, List.getElem_toArray, List.getElem_cons_zero, List.setIfInBounds_toArray, List.set_cons_succ, List.set_cons_zero]
        refine wpAnyH_take (i := 1) (v := ?vm1) rfl (by kernel_rfl) (by kernel_rfl) (by kernel_rfl) (fun _ _ _ h => h) (Or.inl ⟨by rfl, ?hym1⟩) (by assumption) ?restm1
        case hym1 => (intro w hSw; (try dsimp only at hSw); go_simp) <;> with_reducible rfl
        simp only [Act.put, List.getElem_toArray, List.getElem_cons_succ, List.getElem_cons_zero, List.setIfInBounds_toArray, List.set_cons_succ, List.set_cons_zero]
        refine wpAnyH_take (i := 3) (v := ?vm3) rfl (by kernel_rfl) (by kernel_rfl) (by kernel_rfl) (fun _ _ _ h => h) (Or.inl ⟨by rfl, ?hym3⟩) (by assumption) ?restm3
        case hym3 => (intro w hSw; (try dsimp only at hSw); go_simp) <;> with_reducible rfl
        simp only [Act.put, List.getElem_toArray, List.getElem_cons_succ, List.getElem_cons_zero, List.setIfInBounds_toArray, List.set_cons_succ, List.set_cons_zero]
        refine wpAnyH_take (i := 4) (v := ?vm4) rfl (by kernel_rfl) (by kernel_rfl) (by kernel_rfl) (fun _ _ _ h => h) (Or.inl ⟨by rfl, ?hym4⟩) (by assumption) ?restm4
        case hym4 => (intro w hSw; (try dsimp only at hSw); go_simp) <;> with_reducible rfl
        simp only [Act.put, List.getElem_toArray, List.getElem_cons_succ, List.getElem_cons_zero, List.setIfInBounds_toArray, List.set_cons_succ, List.set_cons_zero]
        refine wpAnyH_take (i := 5) (v := ?vm5) rfl (by kernel_rfl) (by kernel_rfl) (by kernel_rfl) (fun _ _ _ h => h) (Or.inl ⟨by rfl, ?hym5⟩) (by assumption) ?restm5
        case hym5 => (intro w hSw; (try dsimp only at hSw); go_simp) <;> with_reducible rfl
        simp only [Act.put, List.getElem_toArray, List.getElem_cons_succ, List.getElem_cons_zero, List.setIfInBounds_toArray, List.set_cons_succ, List.set_cons_zero]
        have HAL0 := Lib.hid (show Al w5 w5.drew Z9 [] from ⟨(Below.refl _ _).drew, List.nodup_nil, fun g hg => by cases hg⟩)
        refine openH fun OPS hO QQ hQ AA hA => ?_
        clear hHeld
        have HQP := Lib.hid (show ∀ (c : List PanicEntry) (a : Act) (d : Tmp) (v : Value) (w : World), QQ (.panic c) (a.put (some d) v) w → QQ (.panic c) a w by rw [hQ.out]; exact fun _ _ _ _ _ h => h)
        have st3_101112 : ∀ (g10 g11 g12 : Nat) (w' : World), Al w5 w' Z9 [g10, g11, g12] → wpAnyH Try.prog .any OPS QQ (fun w' => w'.cell? ⟨A, 0, none⟩ = some (.int .i64 (p : Nat))) 3 #[true, true, true, true, true, true, true, true, true, true, true, true, true, true, true, false, false, false] ((((((((((AA.put (some 10) (.pointer (some ⟨g10, 0, none⟩))).put (some 11) (.pointer (some ⟨g11, 0, none⟩))).put (some 12) (.pointer (some ⟨g12, 0, none⟩))).put (some 49) (.agg M1)).put (some 53) (.agg M2)).put (some 54) (.tuple #[.agg V1, .agg V2, .agg Z9])).put (some 46) (.tuple #[.agg V1, .agg V2, .agg Z9])).put (some 55) (.agg V1)).put (some 56) (.agg V2)).put (some 57) (.agg Z9)) w' := by
          intro g10 g11 g12 w' hAl0
          have hAl := Lib.hid hAl0
          have hnd : g10 ≠ g11 ∧ g10 ≠ g12 ∧ g11 ≠ g12 := by have := hAl0.nd; simp at this; omega
          have G0 := Lib.hid (hAl0.all g10 (by simp)).2
          have G1 := Lib.hid ((setRow_other w' g10 g11 V1 (Ne.symm hnd.1)).trans (hAl0.all g11 (by simp)).2)
          have G2 := Lib.hid ((setRow_other _ g11 g12 V2 (Ne.symm hnd.2.2)).trans ((setRow_other w' g10 g12 V1 (Ne.symm hnd.2.1)).trans (hAl0.all g12 (by simp)).2))
          have B1 := Lib.hid (below_setRow hAl0.bel (hAl0.all g10 (by simp)).1 V1)
          have B2 := Lib.hid (below_setRow B1.out (hAl0.all g11 (by simp)).1 V2)
          have B3 := Lib.hid (below_setRow B2.out (hAl0.all g12 (by simp)).1 Z9)
          have E2 := Lib.hid (setRow_heap _ g12 Z9 Z9 29 (0, 0) G2.out)
          clear hAl0 hAl hnd
          rw [hO.out, hA.out]
          simp only [Act.put, List.setIfInBounds_toArray, List.set_cons_succ, List.set_cons_zero]
          refine wpAnyH_ready (rs := [15]) (by kernel_rfl) (by simp) ?_
          refine AllReadyH.cons rfl (fun K hK => ?_) AllReadyH.nil
          refine step_store29 rfl _ _ rfl g10 V1 rfl rfl Z9 G0.out y1 q1 o1 ?_
          refine hK.out _ _ (KS.out _ B1.out) (fun hHeld => ?_)
          clear hK K
          try simp only [Act.put, List.getElem_toArray, List.getElem_cons_succ, List.getElem_cons_zero, List.setIfInBounds_toArray, List.set_cons_succ, List.set_cons_zero]
          refine wpAnyH_ready (rs := [16]) (by kernel_rfl) (by simp) ?_
          refine AllReadyH.cons rfl (fun K hK => ?_) AllReadyH.nil
          refine step_store29 rfl _ _ rfl g11 V2 rfl rfl Z9 G1.out y2 q2 o2 ?_
          refine hK.out _ _ (KS.out _ B2.out) (fun hHeld => ?_)
          clear hK K
          try simp only [Act.put, List.getElem_toArray, List.getElem_cons_succ, List.getElem_cons_zero, List.setIfInBounds_toArray, List.set_cons_succ, List.set_cons_zero]
          refine wpAnyH_ready (rs := [17]) (by kernel_rfl) (by simp) ?_
          refine AllReadyH.cons rfl (fun K hK => ?_) AllReadyH.nil
          refine step_store29 rfl _ _ rfl g12 Z9 rfl rfl Z9 G2.out y3 rfl o3 ?_
          refine hK.out _ _ (KS.out _ B3.out) (fun hHeld => ?_)
          clear hK K
          try simp only [Act.put, List.getElem_toArray, List.getElem_cons_succ, List.getElem_cons_zero, List.setIfInBounds_toArray, List.set_cons_succ, List.set_cons_zero]
          refine wpAnyH_done (by kernel_rfl) ?_ _
          rw [hQ.out]
          obtain ⟨W9, hW9⟩ : ∃ W9, ((w'.setRow g10 V1).setRow g11 V2).setRow g12 Z9 = W9 := ⟨_, rfl⟩
          rw [hW9] at B3 E2
          rw [hW9]
          have cB := (B3.out.cell (p := ⟨B, 17, none⟩) (World.block_lt_of_cell? _ _ KB.out)).trans KB.out
          have cA := (B3.out.cell (p := ⟨A, 17, none⟩) (World.block_lt_of_cell? _ _ KA.out)).trans KA.out
          have HBW := Lib.hid (HB5.out.trans (B3.out.mono HB5.out.size))
          clear hW9 G0 G1 G2 B1 B2 KS HM1 HM2 HM3 hO hQ hA HQP
          by_cases h4 : sB = 4
          all_goals
            first | (have hs3 : sA < 3 := HINN.out h4) | skip
            go_wp2_with (first | (refine wpList_load_row rfl 29 _ rfl g12 rfl 29 Z9 (0, 0) _ E2.out Try.underlying29 rfl y3 ?_) | (refine wpList_build29 HZZ.out rfl rfl ?_))
            go_roundw
            case rel => exact ⟨k + 1, by omega, by go_num, HBW.out⟩
            case measure => simp [intOf]; omega
        have st3_1011 : ∀ (g10 g11 : Nat) (w' : World), Al w5 w' Z9 [g10, g11] → wpAnyH Try.prog .any OPS QQ (fun w' => w'.cell? ⟨A, 0, none⟩ = some (.int .i64 (p : Nat))) 4 #[true, true, true, true, true, true, true, true, true, true, true, true, true, true, false, false, false, false] (((((((((AA.put (some 10) (.pointer (some ⟨g10, 0, none⟩))).put (some 11) (.pointer (some ⟨g11, 0, none⟩))).put (some 49) (.agg M1)).put (some 53) (.agg M2)).put (some 54) (.tuple #[.agg V1, .agg V2, .agg Z9])).put (some 46) (.tuple #[.agg V1, .agg V2, .agg Z9])).put (some 55) (.agg V1)).put (some 56) (.agg V2)).put (some 57) (.agg Z9)) w' := by
          intro g10 g11 w' hAl0
          have hAl := Lib.hid hAl0
          clear hAl0
          rw [hO.out, hA.out]
          try simp only [Act.put, List.setIfInBounds_toArray, List.set_cons_succ, List.set_cons_zero]
          refine wpAnyH_ready (rs := [14]) (by kernel_rfl) (by simp) ?_
          refine AllReadyH.cons rfl (fun K hK => ?_) AllReadyH.nil
          refine step_alloc29 HZ9.out rfl rfl ?_
          have hA2 := Lib.hid (Al.new (l1 := [g10, g11]) (l2 := []) hAl.out)
          refine hK.out _ _ (KS.out _ hA2.out.bel) (fun hHeld => ?_)
          clear hK K
          try simp only [Act.put, List.getElem_toArray, List.getElem_cons_succ, List.getElem_cons_zero, List.setIfInBounds_toArray, List.set_cons_succ, List.set_cons_zero]
          have h := st3_101112 g10 g11 w'.heap.size _ hA2.out
          rw [hO.out, hA.out] at h
          simp only [Act.put, List.setIfInBounds_toArray, List.set_cons_succ, List.set_cons_zero] at h
          exact h
        have st3_1012 : ∀ (g10 g12 : Nat) (w' : World), Al w5 w' Z9 [g10, g12] → wpAnyH Try.prog .any OPS QQ (fun w' => w'.cell? ⟨A, 0, none⟩ = some (.int .i64 (p : Nat))) 4 #[true, true, true, true, true, true, true, true, true, true, true, true, true, false, true, false, false, false] (((((((((AA.put (some 10) (.pointer (some ⟨g10, 0, none⟩))).put (some 12) (.pointer (some ⟨g12, 0, none⟩))).put (some 49) (.agg M1)).put (some 53) (.agg M2)).put (some 54) (.tuple #[.agg V1, .agg V2, .agg Z9])).put (some 46) (.tuple #[.agg V1, .agg V2, .agg Z9])).put (some 55) (.agg V1)).put (some 56) (.agg V2)).put (some 57) (.agg Z9)) w' := by
          intro g10 g12 w' hAl0
          have hAl := Lib.hid hAl0
          clear hAl0
          rw [hO.out, hA.out]
          try simp only [Act.put, List.setIfInBounds_toArray, List.set_cons_succ, List.set_cons_zero]
          refine wpAnyH_ready (rs := [13]) (by kernel_rfl) (by simp) ?_
          refine AllReadyH.cons rfl (fun K hK => ?_) AllReadyH.nil
          refine step_alloc29 HZ9.out rfl rfl ?_
          have hA2 := Lib.hid (Al.new (l1 := [g10]) (l2 := [g12]) hAl.out)
          refine hK.out _ _ (KS.out _ hA2.out.bel) (fun hHeld => ?_)
          clear hK K
          try simp only [Act.put, List.getElem_toArray, List.getElem_cons_succ, List.getElem_cons_zero, List.setIfInBounds_toArray, List.set_cons_succ, List.set_cons_zero]
          have h := st3_101112 g10 w'.heap.size g12 _ hA2.out
          rw [hO.out, hA.out] at h
          simp only [Act.put, List.setIfInBounds_toArray, List.set_cons_succ, List.set_cons_zero] at h
          exact h
        have st3_1112 : ∀ (g11 g12 : Nat) (w' : World), Al w5 w' Z9 [g11, g12] → wpAnyH Try.prog .any OPS QQ (fun w' => w'.cell? ⟨A, 0, none⟩ = some (.int .i64 (p : Nat))) 4 #[true, true, true, true, true, true, true, true, true, true, true, true, false, true, true, false, false, false] (((((((((AA.put (some 11) (.pointer (some ⟨g11, 0, none⟩))).put (some 12) (.pointer (some ⟨g12, 0, none⟩))).put (some 49) (.agg M1)).put (some 53) (.agg M2)).put (some 54) (.tuple #[.agg V1, .agg V2, .agg Z9])).put (some 46) (.tuple #[.agg V1, .agg V2, .agg Z9])).put (some 55) (.agg V1)).put (some 56) (.agg V2)).put (some 57) (.agg Z9)) w' := by
          intro g11 g12 w' hAl0
          have hAl := Lib.hid hAl0
          clear hAl0
          rw [hO.out, hA.out]
          try simp only [Act.put, List.setIfInBounds_toArray, List.set_cons_succ, List.set_cons_zero]
          refine wpAnyH_ready (rs := [12]) (by kernel_rfl) (by simp) ?_
          refine AllReadyH.cons rfl (fun K hK => ?_) AllReadyH.nil
          refine step_alloc29 HZ9.out rfl rfl ?_
          have hA2 := Lib.hid (Al.new (l1 := []) (l2 := [g11, g12]) hAl.out)
          refine hK.out _ _ (KS.out _ hA2.out.bel) (fun hHeld => ?_)
          clear hK K
          try simp only [Act.put, List.getElem_toArray, List.getElem_cons_succ, List.getElem_cons_zero, List.setIfInBounds_toArray, List.set_cons_succ, List.set_cons_zero]
          have h := st3_101112 w'.heap.size g11 g12 _ hA2.out
          rw [hO.out, hA.out] at h
          simp only [Act.put, List.setIfInBounds_toArray, List.set_cons_succ, List.set_cons_zero] at h
          exact h
        have st3_10 : ∀ (g10 : Nat) (w' : World), Al w5 w' Z9 [g10] → wpAnyH Try.prog .any OPS QQ (fun w' => w'.cell? ⟨A, 0, none⟩ = some (.int .i64 (p : Nat))) 5 #[true, true, true, true, true, true, true, true, true, true, true, true, true, false, false, false, false, false] ((((((((AA.put (some 10) (.pointer (some ⟨g10, 0, none⟩))).put (some 49) (.agg M1)).put (some 53) (.agg M2)).put (some 54) (.tuple #[.agg V1, .agg V2, .agg Z9])).put (some 46) (.tuple #[.agg V1, .agg V2, .agg Z9])).put (some 55) (.agg V1)).put (some 56) (.agg V2)).put (some 57) (.agg Z9)) w' := by
          intro g10 w' hAl0
          have hAl := Lib.hid hAl0
          clear hAl0
          rw [hO.out, hA.out]
          try simp only [Act.put, List.setIfInBounds_toArray, List.set_cons_succ, List.set_cons_zero]
          refine wpAnyH_ready (rs := [13, 14]) (by kernel_rfl) (by simp) ?_
          refine AllReadyH.cons rfl (fun K hK => ?_) ?_
          · refine step_alloc29 HZ9.out rfl rfl ?_
            have hA2 := Lib.hid (Al.new (l1 := [g10]) (l2 := []) hAl.out)
            refine hK.out _ _ (KS.out _ hA2.out.bel) (fun hHeld => ?_)
            clear hK K
            try simp only [Act.put, List.getElem_toArray, List.getElem_cons_succ, List.getElem_cons_zero, List.setIfInBounds_toArray, List.set_cons_succ, List.set_cons_zero]
            have h := st3_1011 g10 w'.heap.size _ hA2.out
            rw [hO.out, hA.out] at h
            simp only [Act.put, List.setIfInBounds_toArray, List.set_cons_succ, List.set_cons_zero] at h
            exact h
          refine AllReadyH.cons rfl (fun K hK => ?_) AllReadyH.nil
          refine step_alloc29 HZ9.out rfl rfl ?_
          have hA2 := Lib.hid (Al.new (l1 := [g10]) (l2 := []) hAl.out)
          refine hK.out _ _ (KS.out _ hA2.out.bel) (fun hHeld => ?_)
          clear hK K
          try simp only [Act.put, List.getElem_toArray, List.getElem_cons_succ, List.getElem_cons_zero, List.setIfInBounds_toArray, List.set_cons_succ, List.set_cons_zero]
          have h := st3_1012 g10 w'.heap.size _ hA2.out
          rw [hO.out, hA.out] at h
          simp only [Act.put, List.setIfInBounds_toArray, List.set_cons_succ, List.set_cons_zero] at h
          exact h
        have st3_11 : ∀ (g11 : Nat) (w' : World), Al w5 w' Z9 [g11] → wpAnyH Try.prog .any OPS QQ (fun w' => w'.cell? ⟨A, 0, none⟩ = some (.int .i64 (p : Nat))) 5 #[true, true, true, true, true, true, true, true, true, true, true, true, false, true, false, false, false, false] ((((((((AA.put (some 11) (.pointer (some ⟨g11, 0, none⟩))).put (some 49) (.agg M1)).put (some 53) (.agg M2)).put (some 54) (.tuple #[.agg V1, .agg V2, .agg Z9])).put (some 46) (.tuple #[.agg V1, .agg V2, .agg Z9])).put (some 55) (.agg V1)).put (some 56) (.agg V2)).put (some 57) (.agg Z9)) w' := by
          intro g11 w' hAl0
          have hAl := Lib.hid hAl0
          clear hAl0
          rw [hO.out, hA.out]
          try simp only [Act.put, List.setIfInBounds_toArray, List.set_cons_succ, List.set_cons_zero]
          refine wpAnyH_ready (rs := [12, 14]) (by kernel_rfl) (by simp) ?_
          refine AllReadyH.cons rfl (fun K hK => ?_) ?_
          · refine step_alloc29 HZ9.out rfl rfl ?_
            have hA2 := Lib.hid (Al.new (l1 := []) (l2 := [g11]) hAl.out)
            refine hK.out _ _ (KS.out _ hA2.out.bel) (fun hHeld => ?_)
            clear hK K
            try simp only [Act.put, List.getElem_toArray, List.getElem_cons_succ, List.getElem_cons_zero, List.setIfInBounds_toArray, List.set_cons_succ, List.set_cons_zero]
            have h := st3_1011 w'.heap.size g11 _ hA2.out
            rw [hO.out, hA.out] at h
            simp only [Act.put, List.setIfInBounds_toArray, List.set_cons_succ, List.set_cons_zero] at h
            exact h
          refine AllReadyH.cons rfl (fun K hK => ?_) AllReadyH.nil
          refine step_alloc29 HZ9.out rfl rfl ?_
          have hA2 := Lib.hid (Al.new (l1 := [g11]) (l2 := []) hAl.out)
          refine hK.out _ _ (KS.out _ hA2.out.bel) (fun hHeld => ?_)
          clear hK K
          try simp only [Act.put, List.getElem_toArray, List.getElem_cons_succ, List.getElem_cons_zero, List.setIfInBounds_toArray, List.set_cons_succ, List.set_cons_zero]
          have h := st3_1112 g11 w'.heap.size _ hA2.out
          rw [hO.out, hA.out] at h
          simp only [Act.put, List.setIfInBounds_toArray, List.set_cons_succ, List.set_cons_zero] at h
          exact h
        have st3_12 : ∀ (g12 : Nat) (w' : World), Al w5 w' Z9 [g12] → wpAnyH Try.prog .any OPS QQ (fun w' => w'.cell? ⟨A, 0, none⟩ = some (.int .i64 (p : Nat))) 5 #[true, true, true, true, true, true, true, true, true, true, true, true, false, false, true, false, false, false] ((((((((AA.put (some 12) (.pointer (some ⟨g12, 0, none⟩))).put (some 49) (.agg M1)).put (some 53) (.agg M2)).put (some 54) (.tuple #[.agg V1, .agg V2, .agg Z9])).put (some 46) (.tuple #[.agg V1, .agg V2, .agg Z9])).put (some 55) (.agg V1)).put (some 56) (.agg V2)).put (some 57) (.agg Z9)) w' := by
          intro g12 w' hAl0
          have hAl := Lib.hid hAl0
          clear hAl0
          rw [hO.out, hA.out]
          try simp only [Act.put, List.setIfInBounds_toArray, List.set_cons_succ, List.set_cons_zero]
          refine wpAnyH_ready (rs := [12, 13]) (by kernel_rfl) (by simp) ?_
          refine AllReadyH.cons rfl (fun K hK => ?_) ?_
          · refine step_alloc29 HZ9.out rfl rfl ?_
            have hA2 := Lib.hid (Al.new (l1 := []) (l2 := [g12]) hAl.out)
            refine hK.out _ _ (KS.out _ hA2.out.bel) (fun hHeld => ?_)
            clear hK K
            try simp only [Act.put, List.getElem_toArray, List.getElem_cons_succ, List.getElem_cons_zero, List.setIfInBounds_toArray, List.set_cons_succ, List.set_cons_zero]
            have h := st3_1012 w'.heap.size g12 _ hA2.out
            rw [hO.out, hA.out] at h
            simp only [Act.put, List.setIfInBounds_toArray, List.set_cons_succ, List.set_cons_zero] at h
            exact h
          refine AllReadyH.cons rfl (fun K hK => ?_) AllReadyH.nil
          refine step_alloc29 HZ9.out rfl rfl ?_
          have hA2 := Lib.hid (Al.new (l1 := []) (l2 := [g12]) hAl.out)
          refine hK.out _ _ (KS.out _ hA2.out.bel) (fun hHeld => ?_)
          clear hK K
          try simp only [Act.put, List.getElem_toArray, List.getElem_cons_succ, List.getElem_cons_zero, List.setIfInBounds_toArray, List.set_cons_succ, List.set_cons_zero]
          have h := st3_1112 w'.heap.size g12 _ hA2.out
          rw [hO.out, hA.out] at h
          simp only [Act.put, List.setIfInBounds_toArray, List.set_cons_succ, List.set_cons_zero] at h
          exact h
        have st3_0 : ∀ (w' : World), Al w5 w' Z9 [] → wpAnyH Try.prog .any OPS QQ (fun w' => w'.cell? ⟨A, 0, none⟩ = some (.int .i64 (p : Nat))) 6 #[true, true, true, true, true, true, true, true, true, true, true, true, false, false, false, false, false, false] (((((((AA.put (some 49) (.agg M1)).put (some 53) (.agg M2)).put (some 54) (.tuple #[.agg V1, .agg V2, .agg Z9])).put (some 46) (.tuple #[.agg V1, .agg V2, .agg Z9])).put (some 55) (.agg V1)).put (some 56) (.agg V2)).put (some 57) (.agg Z9)) w' := by
          intro w' hAl0
          have hAl := Lib.hid hAl0
          clear hAl0
          rw [hO.out, hA.out]
          try simp only [Act.put, List.setIfInBounds_toArray, List.set_cons_succ, List.set_cons_zero]
          refine wpAnyH_ready (rs := [12, 13, 14]) (by kernel_rfl) (by simp) ?_
          refine AllReadyH.cons rfl (fun K hK => ?_) ?_
          · refine step_alloc29 HZ9.out rfl rfl ?_
            have hA2 := Lib.hid (Al.new (l1 := []) (l2 := []) hAl.out)
            refine hK.out _ _ (KS.out _ hA2.out.bel) (fun hHeld => ?_)
            clear hK K
            try simp only [Act.put, List.getElem_toArray, List.getElem_cons_succ, List.getElem_cons_zero, List.setIfInBounds_toArray, List.set_cons_succ, List.set_cons_zero]
            have h := st3_10 w'.heap.size _ hA2.out
            rw [hO.out, hA.out] at h
            simp only [Act.put, List.setIfInBounds_toArray, List.set_cons_succ, List.set_cons_zero] at h
            exact h
          refine AllReadyH.cons rfl (fun K hK => ?_) ?_
          · refine step_alloc29 HZ9.out rfl rfl ?_
            have hA2 := Lib.hid (Al.new (l1 := []) (l2 := []) hAl.out)
            refine hK.out _ _ (KS.out _ hA2.out.bel) (fun hHeld => ?_)
            clear hK K
            try simp only [Act.put, List.getElem_toArray, List.getElem_cons_succ, List.getElem_cons_zero, List.setIfInBounds_toArray, List.set_cons_succ, List.set_cons_zero]
            have h := st3_11 w'.heap.size _ hA2.out
            rw [hO.out, hA.out] at h
            simp only [Act.put, List.setIfInBounds_toArray, List.set_cons_succ, List.set_cons_zero] at h
            exact h
          refine AllReadyH.cons rfl (fun K hK => ?_) AllReadyH.nil
          refine step_alloc29 HZ9.out rfl rfl ?_
          have hA2 := Lib.hid (Al.new (l1 := []) (l2 := []) hAl.out)
          refine hK.out _ _ (KS.out _ hA2.out.bel) (fun hHeld => ?_)
          clear hK K
          try simp only [Act.put, List.getElem_toArray, List.getElem_cons_succ, List.getElem_cons_zero, List.setIfInBounds_toArray, List.set_cons_succ, List.set_cons_zero]
          have h := st3_12 w'.heap.size _ hA2.out
          rw [hO.out, hA.out] at h
          simp only [Act.put, List.setIfInBounds_toArray, List.set_cons_succ, List.set_cons_zero] at h
          exact h
        have st2_101112 : ∀ (g10 g11 g12 : Nat) (w' : World), Al w5 w' Z9 [g10, g11, g12] → wpAnyH Try.prog .any OPS QQ (fun w' => w'.cell? ⟨A, 0, none⟩ = some (.int .i64 (p : Nat))) 8 #[true, true, true, true, true, true, true, false, false, false, false, false, true, true, true, false, false, false] (((((AA.put (some 10) (.pointer (some ⟨g10, 0, none⟩))).put (some 11) (.pointer (some ⟨g11, 0, none⟩))).put (some 12) (.pointer (some ⟨g12, 0, none⟩))).put (some 49) (.agg M1)).put (some 53) (.agg M2)) w' := by
          intro g10 g11 g12 w' hAl0
          have hAl := Lib.hid hAl0
          clear hAl0
          rw [hO.out, hA.out]
          try simp only [Act.put, List.setIfInBounds_toArray, List.set_cons_succ, List.set_cons_zero]
          refine wpAnyH_ready (rs := [7]) (by kernel_rfl) (by simp) ?_
          refine AllReadyH.cons rfl (fun K hK => ?_) AllReadyH.nil
          go_simp
          refine (HM3.out w' hAl.out.bel).mono ?_
          rintro e wx ⟨rfl, hb⟩
          have hA2 := Lib.hid (hAl.out.keep hb)
          clear hb
          refine hK.out _ _ (KS.out _ hA2.out.bel) (fun hHeld => ?_)
          clear hK K
          try simp only [List.setIfInBounds_toArray, List.set_cons_succ, List.set_cons_zero]
          refine wpAnyH_take (i := 8) (v := ?vt13_8) rfl (by kernel_rfl) (by kernel_rfl) (by kernel_rfl) (fun c a w h => HQP.out c a _ _ w h) (Or.inl ⟨by rfl, ?hyt13_8⟩) (by assumption) ?restt13_8
          case hyt13_8 => (intro w hSw; (try dsimp only at hSw); go_simp) <;> with_reducible rfl
          simp only [Act.put, List.getElem_toArray, List.getElem_cons_succ, List.getElem_cons_zero, List.setIfInBounds_toArray, List.set_cons_succ, List.set_cons_zero]
          refine wpAnyH_take (i := 9) (v := ?vt13_9) rfl (by kernel_rfl) (by kernel_rfl) (by kernel_rfl) (fun c a w h => HQP.out c a _ _ w h) (Or.inl ⟨by rfl, ?hyt13_9⟩) (by assumption) ?restt13_9
          case hyt13_9 => (intro w hSw; (try dsimp only at hSw); go_simp) <;> with_reducible rfl
          simp only [Act.put, List.getElem_toArray, List.getElem_cons_succ, List.getElem_cons_zero, List.setIfInBounds_toArray, List.set_cons_succ, List.set_cons_zero]
          refine wpAnyH_take (i := 10) (v := ?vt13_10) rfl (by kernel_rfl) (by kernel_rfl) (by kernel_rfl) (fun c a w h => HQP.out c a _ _ w h) (Or.inl ⟨by rfl, ?hyt13_10⟩) (by assumption) ?restt13_10
          case hyt13_10 => (intro w hSw; (try dsimp only at hSw); go_simp) <;> with_reducible rfl
          simp only [Act.put, List.getElem_toArray, List.getElem_cons_succ, List.getElem_cons_zero, List.setIfInBounds_toArray, List.set_cons_succ, List.set_cons_zero]
          refine wpAnyH_take (i := 11) (v := ?vt13_11) rfl (by kernel_rfl) (by kernel_rfl) (by kernel_rfl) (fun c a w h => HQP.out c a _ _ w h) (Or.inl ⟨by rfl, ?hyt13_11⟩) (by assumption) ?restt13_11
          case hyt13_11 => (intro w hSw; (try dsimp only at hSw); go_simp) <;> with_reducible rfl
          simp only [Act.put, List.getElem_toArray, List.getElem_cons_succ, List.getElem_cons_zero, List.setIfInBounds_toArray, List.set_cons_succ, List.set_cons_zero]
          have h := st3_101112 g10 g11 g12 wx hA2.out
          rw [hO.out, hA.out] at h
          simp only [Act.put, List.setIfInBounds_toArray, List.set_cons_succ, List.set_cons_zero] at h
          exact h
        have st2_1011 : ∀ (g10 g11 : Nat) (w' : World), Al w5 w' Z9 [g10, g11] → wpAnyH Try.prog .any OPS QQ (fun w' => w'.cell? ⟨A, 0, none⟩ = some (.int .i64 (p : Nat))) 9 #[true, true, true, true, true, true, true, false, false, false, false, false, true, true, false, false, false, false] ((((AA.put (some 10) (.pointer (some ⟨g10, 0, none⟩))).put (some 11) (.pointer (some ⟨g11, 0, none⟩))).put (some 49) (.agg M1)).put (some 53) (.agg M2)) w' := by
          intro g10 g11 w' hAl0
          have hAl := Lib.hid hAl0
          clear hAl0
          rw [hO.out, hA.out]
          try simp only [Act.put, List.setIfInBounds_toArray, List.set_cons_succ, List.set_cons_zero]
          refine wpAnyH_ready (rs := [7, 14]) (by kernel_rfl) (by simp) ?_
          refine AllReadyH.cons rfl (fun K hK => ?_) ?_
          · go_simp
            refine (HM3.out w' hAl.out.bel).mono ?_
            rintro e wx ⟨rfl, hb⟩
            have hA2 := Lib.hid (hAl.out.keep hb)
            clear hb
            refine hK.out _ _ (KS.out _ hA2.out.bel) (fun hHeld => ?_)
            clear hK K
            try simp only [List.setIfInBounds_toArray, List.set_cons_succ, List.set_cons_zero]
            refine wpAnyH_take (i := 8) (v := ?vt15_8) rfl (by kernel_rfl) (by kernel_rfl) (by kernel_rfl) (fun c a w h => HQP.out c a _ _ w h) (Or.inl ⟨by rfl, ?hyt15_8⟩) (by assumption) ?restt15_8
            case hyt15_8 => (intro w hSw; (try dsimp only at hSw); go_simp) <;> with_reducible rfl
            simp only [Act.put, List.getElem_toArray, List.getElem_cons_succ, List.getElem_cons_zero, List.setIfInBounds_toArray, List.set_cons_succ, List.set_cons_zero]
            refine wpAnyH_take (i := 9) (v := ?vt15_9) rfl (by kernel_rfl) (by kernel_rfl) (by kernel_rfl) (fun c a w h => HQP.out c a _ _ w h) (Or.inl ⟨by rfl, ?hyt15_9⟩) (by assumption) ?restt15_9
            case hyt15_9 => (intro w hSw; (try dsimp only at hSw); go_simp) <;> with_reducible rfl
            simp only [Act.put, List.getElem_toArray, List.getElem_cons_succ, List.getElem_cons_zero, List.setIfInBounds_toArray, List.set_cons_succ, List.set_cons_zero]
            refine wpAnyH_take (i := 10) (v := ?vt15_10) rfl (by kernel_rfl) (by kernel_rfl) (by kernel_rfl) (fun c a w h => HQP.out c a _ _ w h) (Or.inl ⟨by rfl, ?hyt15_10⟩) (by assumption) ?restt15_10
            case hyt15_10 => (intro w hSw; (try dsimp only at hSw); go_simp) <;> with_reducible rfl
            simp only [Act.put, List.getElem_toArray, List.getElem_cons_succ, List.getElem_cons_zero, List.setIfInBounds_toArray, List.set_cons_succ, List.set_cons_zero]
            refine wpAnyH_take (i := 11) (v := ?vt15_11) rfl (by kernel_rfl) (by kernel_rfl) (by kernel_rfl) (fun c a w h => HQP.out c a _ _ w h) (Or.inl ⟨by rfl, ?hyt15_11⟩) (by assumption) ?restt15_11
            case hyt15_11 => (intro w hSw; (try dsimp only at hSw); go_simp) <;> with_reducible rfl
            simp only [Act.put, List.getElem_toArray, List.getElem_cons_succ, List.getElem_cons_zero, List.setIfInBounds_toArray, List.set_cons_succ, List.set_cons_zero]
            have h := st3_1011 g10 g11 wx hA2.out
            rw [hO.out, hA.out] at h
            simp only [Act.put, List.setIfInBounds_toArray, List.set_cons_succ, List.set_cons_zero] at h
            exact h
          refine AllReadyH.cons rfl (fun K hK => ?_) AllReadyH.nil
          refine step_alloc29 HZ9.out rfl rfl ?_
          have hA2 := Lib.hid (Al.new (l1 := [g10, g11]) (l2 := []) hAl.out)
          refine hK.out _ _ (KS.out _ hA2.out.bel) (fun hHeld => ?_)
          clear hK K
          try simp only [Act.put, List.getElem_toArray, List.getElem_cons_succ, List.getElem_cons_zero, List.setIfInBounds_toArray, List.set_cons_succ, List.set_cons_zero]
          have h := st2_101112 g10 g11 w'.heap.size _ hA2.out
          rw [hO.out, hA.out] at h
          simp only [Act.put, List.setIfInBounds_toArray, List.set_cons_succ, List.set_cons_zero] at h
          exact h
        have st2_1012 : ∀ (g10 g12 : Nat) (w' : World), Al w5 w' Z9 [g10, g12] → wpAnyH Try.prog .any OPS QQ (fun w' => w'.cell? ⟨A, 0, none⟩ = some (.int .i64 (p : Nat))) 9 #[true, true, true, true, true, true, true, false, false, false, false, false, true, false, true, false, false, false] ((((AA.put (some 10) (.pointer (some ⟨g10, 0, none⟩))).put (some 12) (.pointer (some ⟨g12, 0, none⟩))).put (some 49) (.agg M1)).put (some 53) (.agg M2)) w' := by
          intro g10 g12 w' hAl0
          have hAl := Lib.hid hAl0
          clear hAl0
          rw [hO.out, hA.out]
          try simp only [Act.put, List.setIfInBounds_toArray, List.set_cons_succ, List.set_cons_zero]
          refine wpAnyH_ready (rs := [7, 13]) (by kernel_rfl) (by simp) ?_
          refine AllReadyH.cons rfl (fun K hK => ?_) ?_
          · go_simp
            refine (HM3.out w' hAl.out.bel).mono ?_
            rintro e wx ⟨rfl, hb⟩
            have hA2 := Lib.hid (hAl.out.keep hb)
            clear hb
            refine hK.out _ _ (KS.out _ hA2.out.bel) (fun hHeld => ?_)
            clear hK K
            try simp only [List.setIfInBounds_toArray, List.set_cons_succ, List.set_cons_zero]
            refine wpAnyH_take (i := 8) (v := ?vt18_8) rfl (by kernel_rfl) (by kernel_rfl) (by kernel_rfl) (fun c a w h => HQP.out c a _ _ w h) (Or.inl ⟨by rfl, ?hyt18_8⟩) (by assumption) ?restt18_8
            case hyt18_8 => (intro w hSw; (try dsimp only at hSw); go_simp) <;> with_reducible rfl
            simp only [Act.put, List.getElem_toArray, List.getElem_cons_succ, List.getElem_cons_zero, List.setIfInBounds_toArray, List.set_cons_succ, List.set_cons_zero]
            refine wpAnyH_take (i := 9) (v := ?vt18_9) rfl (by kernel_rfl) (by kernel_rfl) (by kernel_rfl) (fun c a w h => HQP.out c a _ _ w h) (Or.inl ⟨by rfl, ?hyt18_9⟩) (by assumption) ?restt18_9
            case hyt18_9 => (intro w hSw; (try dsimp only at hSw); go_simp) <;> with_reducible rfl
            simp only [Act.put, List.getElem_toArray, List.getElem_cons_succ, List.getElem_cons_zero, List.setIfInBounds_toArray, List.set_cons_succ, List.set_cons_zero]
            refine wpAnyH_take (i := 10) (v := ?vt18_10) rfl (by kernel_rfl) (by kernel_rfl) (by kernel_rfl) (fun c a w h => HQP.out c a _ _ w h) (Or.inl ⟨by rfl, ?hyt18_10⟩) (by assumption) ?restt18_10
            case hyt18_10 => (intro w hSw; (try dsimp only at hSw); go_simp) <;> with_reducible rfl
            simp only [Act.put, List.getElem_toArray, List.getElem_cons_succ, List.getElem_cons_zero, List.setIfInBounds_toArray, List.set_cons_succ, List.set_cons_zero]
            refine wpAnyH_take (i := 11) (v := ?vt18_11) rfl (by kernel_rfl) (by kernel_rfl) (by kernel_rfl) (fun c a w h => HQP.out c a _ _ w h) (Or.inl ⟨by rfl, ?hyt18_11⟩) (by assumption) ?restt18_11
            case hyt18_11 => (intro w hSw; (try dsimp only at hSw); go_simp) <;> with_reducible rfl
            simp only [Act.put, List.getElem_toArray, List.getElem_cons_succ, List.getElem_cons_zero, List.setIfInBounds_toArray, List.set_cons_succ, List.set_cons_zero]
            have h := st3_1012 g10 g12 wx hA2.out
            rw [hO.out, hA.out] at h
            simp only [Act.put, List.setIfInBounds_toArray, List.set_cons_succ, List.set_cons_zero] at h
            exact h
          refine AllReadyH.cons rfl (fun K hK => ?_) AllReadyH.nil
          refine step_alloc29 HZ9.out rfl rfl ?_
          have hA2 := Lib.hid (Al.new (l1 := [g10]) (l2 := [g12]) hAl.out)
          refine hK.out _ _ (KS.out _ hA2.out.bel) (fun hHeld => ?_)
          clear hK K
          try simp only [Act.put, List.getElem_toArray, List.getElem_cons_succ, List.getElem_cons_zero, List.setIfInBounds_toArray, List.set_cons_succ, List.set_cons_zero]
          have h := st2_101112 g10 w'.heap.size g12 _ hA2.out
          rw [hO.out, hA.out] at h
          simp only [Act.put, List.setIfInBounds_toArray, List.set_cons_succ, List.set_cons_zero] at h
          exact h
        have st2_1112 : ∀ (g11 g12 : Nat) (w' : World), Al w5 w' Z9 [g11, g12] → wpAnyH Try.prog .any OPS QQ (fun w' => w'.cell? ⟨A, 0, none⟩ = some (.int .i64 (p : Nat))) 9 #[true, true, true, true, true, true, true, false, false, false, false, false, false, true, true, false, false, false] ((((AA.put (some 11) (.pointer (some ⟨g11, 0, none⟩))).put (some 12) (.pointer (some ⟨g12, 0, none⟩))).put (some 49) (.agg M1)).put (some 53) (.agg M2)) w' := by
          intro g11 g12 w' hAl0
          have hAl := Lib.hid hAl0
          clear hAl0
          rw [hO.out, hA.out]
          try simp only [Act.put, List.setIfInBounds_toArray, List.set_cons_succ, List.set_cons_zero]
          refine wpAnyH_ready (rs := [7, 12]) (by kernel_rfl) (by simp) ?_
          refine AllReadyH.cons rfl (fun K hK => ?_) ?_
          · go_simp
            refine (HM3.out w' hAl.out.bel).mono ?_
            rintro e wx ⟨rfl, hb⟩
            have hA2 := Lib.hid (hAl.out.keep hb)
            clear hb
            refine hK.out _ _ (KS.out _ hA2.out.bel) (fun hHeld => ?_)
            clear hK K
            try simp only [List.setIfInBounds_toArray, List.set_cons_succ, List.set_cons_zero]
            refine wpAnyH_take (i := 8) (v := ?vt21_8) rfl (by kernel_rfl) (by kernel_rfl) (by kernel_rfl) (fun c a w h => HQP.out c a _ _ w h) (Or.inl ⟨by rfl, ?hyt21_8⟩) (by assumption) ?restt21_8
            case hyt21_8 => (intro w hSw; (try dsimp only at hSw); go_simp) <;> with_reducible rfl
            simp only [Act.put, List.getElem_toArray, List.getElem_cons_succ, List.getElem_cons_zero, List.setIfInBounds_toArray, List.set_cons_succ, List.set_cons_zero]
            refine wpAnyH_take (i := 9) (v := ?vt21_9) rfl (by kernel_rfl) (by kernel_rfl) (by kernel_rfl) (fun c a w h => HQP.out c a _ _ w h) (Or.inl ⟨by rfl, ?hyt21_9⟩) (by assumption) ?restt21_9
            case hyt21_9 => (intro w hSw; (try dsimp only at hSw); go_simp) <;> with_reducible rfl
            simp only [Act.put, List.getElem_toArray, List.getElem_cons_succ, List.getElem_cons_zero, List.setIfInBounds_toArray, List.set_cons_succ, List.set_cons_zero]
            refine wpAnyH_take (i := 10) (v := ?vt21_10) rfl (by kernel_rfl) (by kernel_rfl) (by kernel_rfl) (fun c a w h => HQP.out c a _ _ w h) (Or.inl ⟨by rfl, ?hyt21_10⟩) (by assumption) ?restt21_10
            case hyt21_10 => (intro w hSw; (try dsimp only at hSw); go_simp) <;> with_reducible rfl
            simp only [Act.put, List.getElem_toArray, List.getElem_cons_succ, List.getElem_cons_zero, List.setIfInBounds_toArray, List.set_cons_succ, List.set_cons_zero]
            refine wpAnyH_take (i := 11) (v := ?vt21_11) rfl (by kernel_rfl) (by kernel_rfl) (by kernel_rfl) (fun c a w h => HQP.out c a _ _ w h) (Or.inl ⟨by rfl, ?hyt21_11⟩) (by assumption) ?restt21_11
            case hyt21_11 => (intro w hSw; (try dsimp only at hSw); go_simp) <;> with_reducible rfl
            simp only [Act.put, List.getElem_toArray, List.getElem_cons_succ, List.getElem_cons_zero, List.setIfInBounds_toArray, List.set_cons_succ, List.set_cons_zero]
            have h := st3_1112 g11 g12 wx hA2.out
            rw [hO.out, hA.out] at h
            simp only [Act.put, List.setIfInBounds_toArray, List.set_cons_succ, List.set_cons_zero] at h
            exact h
          refine AllReadyH.cons rfl (fun K hK => ?_) AllReadyH.nil
          refine step_alloc29 HZ9.out rfl rfl ?_
          have hA2 := Lib.hid (Al.new (l1 := []) (l2 := [g11, g12]) hAl.out)
          refine hK.out _ _ (KS.out _ hA2.out.bel) (fun hHeld => ?_)
          clear hK K
          try simp only [Act.put, List.getElem_toArray, List.getElem_cons_succ, List.getElem_cons_zero, List.setIfInBounds_toArray, List.set_cons_succ, List.set_cons_zero]
          have h := st2_101112 w'.heap.size g11 g12 _ hA2.out
          rw [hO.out, hA.out] at h
          simp only [Act.put, List.setIfInBounds_toArray, List.set_cons_succ, List.set_cons_zero] at h
          exact h
        have st2_10 : ∀ (g10 : Nat) (w' : World), Al w5 w' Z9 [g10] → wpAnyH Try.prog .any OPS QQ (fun w' => w'.cell? ⟨A, 0, none⟩ = some (.int .i64 (p : Nat))) 10 #[true, true, true, true, true, true, true, false, false, false, false, false, true, false, false, false, false, false] (((AA.put (some 10) (.pointer (some ⟨g10, 0, none⟩))).put (some 49) (.agg M1)).put (some 53) (.agg M2)) w' := by
          intro g10 w' hAl0
          have hAl := Lib.hid hAl0
          clear hAl0
          rw [hO.out, hA.out]
          try simp only [Act.put, List.setIfInBounds_toArray, List.set_cons_succ, List.set_cons_zero]
          refine wpAnyH_ready (rs := [7, 13, 14]) (by kernel_rfl) (by simp) ?_
          refine AllReadyH.cons rfl (fun K hK => ?_) ?_
          · go_simp
            refine (HM3.out w' hAl.out.bel).mono ?_
            rintro e wx ⟨rfl, hb⟩
            have hA2 := Lib.hid (hAl.out.keep hb)
            clear hb
            refine hK.out _ _ (KS.out _ hA2.out.bel) (fun hHeld => ?_)
            clear hK K
            try simp only [List.setIfInBounds_toArray, List.set_cons_succ, List.set_cons_zero]
            refine wpAnyH_take (i := 8) (v := ?vt24_8) rfl (by kernel_rfl) (by kernel_rfl) (by kernel_rfl) (fun c a w h => HQP.out c a _ _ w h) (Or.inl ⟨by rfl, ?hyt24_8⟩) (by assumption) ?restt24_8
            case hyt24_8 => (intro w hSw; (try dsimp only at hSw); go_simp) <;> with_reducible rfl
            simp only [Act.put, List.getElem_toArray, List.getElem_cons_succ, List.getElem_cons_zero, List.setIfInBounds_toArray, List.set_cons_succ, List.set_cons_zero]
            refine wpAnyH_take (i := 9) (v := ?vt24_9) rfl (by kernel_rfl) (by kernel_rfl) (by kernel_rfl) (fun c a w h => HQP.out c a _ _ w h) (Or.inl ⟨by rfl, ?hyt24_9⟩) (by assumption) ?restt24_9
            case hyt24_9 => (intro w hSw; (try dsimp only at hSw); go_simp) <;> with_reducible rfl
            simp only [Act.put, List.getElem_toArray, List.getElem_cons_succ, List.getElem_cons_zero, List.setIfInBounds_toArray, List.set_cons_succ, List.set_cons_zero]
            refine wpAnyH_take (i := 10) (v := ?vt24_10) rfl (by kernel_rfl) (by kernel_rfl) (by kernel_rfl) (fun c a w h => HQP.out c a _ _ w h) (Or.inl ⟨by rfl, ?hyt24_10⟩) (by assumption) ?restt24_10
            case hyt24_10 => (intro w hSw; (try dsimp only at hSw); go_simp) <;> with_reducible rfl
            simp only [Act.put, List.getElem_toArray, List.getElem_cons_succ, List.getElem_cons_zero, List.setIfInBounds_toArray, List.set_cons_succ, List.set_cons_zero]
            refine wpAnyH_take (i := 11) (v := ?vt24_11) rfl (by kernel_rfl) (by kernel_rfl) (by kernel_rfl) (fun c a w h => HQP.out c a _ _ w h) (Or.inl ⟨by rfl, ?hyt24_11⟩) (by assumption) ?restt24_11
            case hyt24_11 => (intro w hSw; (try dsimp only at hSw); go_simp) <;> with_reducible rfl
            simp only [Act.put, List.getElem_toArray, List.getElem_cons_succ, List.getElem_cons_zero, List.setIfInBounds_toArray, List.set_cons_succ, List.set_cons_zero]
            have h := st3_10 g10 wx hA2.out
            rw [hO.out, hA.out] at h
            simp only [Act.put, List.setIfInBounds_toArray, List.set_cons_succ, List.set_cons_zero] at h
            exact h
          refine AllReadyH.cons rfl (fun K hK => ?_) ?_
          · refine step_alloc29 HZ9.out rfl rfl ?_
            have hA2 := Lib.hid (Al.new (l1 := [g10]) (l2 := []) hAl.out)
            refine hK.out _ _ (KS.out _ hA2.out.bel) (fun hHeld => ?_)
            clear hK K
            try simp only [Act.put, List.getElem_toArray, List.getElem_cons_succ, List.getElem_cons_zero, List.setIfInBounds_toArray, List.set_cons_succ, List.set_cons_zero]
            have h := st2_1011 g10 w'.heap.size _ hA2.out
            rw [hO.out, hA.out] at h
            simp only [Act.put, List.setIfInBounds_toArray, List.set_cons_succ, List.set_cons_zero] at h
            exact h
          refine AllReadyH.cons rfl (fun K hK => ?_) AllReadyH.nil
          refine step_alloc29 HZ9.out rfl rfl ?_
          have hA2 := Lib.hid (Al.new (l1 := [g10]) (l2 := []) hAl.out)
          refine hK.out _ _ (KS.out _ hA2.out.bel) (fun hHeld => ?_)
          clear hK K
          try simp only [Act.put, List.getElem_toArray, List.getElem_cons_succ, List.getElem_cons_zero, List.setIfInBounds_toArray, List.set_cons_succ, List.set_cons_zero]
          have h := st2_1012 g10 w'.heap.size _ hA2.out
          rw [hO.out, hA.out] at h
          simp only [Act.put, List.setIfInBounds_toArray, List.set_cons_succ, List.set_cons_zero] at h
          exact h
        have st2_11 : ∀ (g11 : Nat) (w' : World), Al w5 w' Z9 [g11] → wpAnyH Try.prog .any OPS QQ (fun w' => w'.cell? ⟨A, 0, none⟩ = some (.int .i64 (p : Nat))) 10 #[true, true, true, true, true, true, true, false, false, false, false, false, false, true, false, false, false, false] (((AA.put (some 11) (.pointer (some ⟨g11, 0, none⟩))).put (some 49) (.agg M1)).put (some 53) (.agg M2)) w' := by
          intro g11 w' hAl0
          have hAl := Lib.hid hAl0
          clear hAl0
          rw [hO.out, hA.out]
          try simp only [Act.put, List.setIfInBounds_toArray, List.set_cons_succ, List.set_cons_zero]
          refine wpAnyH_ready (rs := [7, 12, 14]) (by kernel_rfl) (by simp) ?_
          refine AllReadyH.cons rfl (fun K hK => ?_) ?_
          · go_simp
            refine (HM3.out w' hAl.out.bel).mono ?_
            rintro e wx ⟨rfl, hb⟩
            have hA2 := Lib.hid (hAl.out.keep hb)
            clear hb
            refine hK.out _ _ (KS.out _ hA2.out.bel) (fun hHeld => ?_)
            clear hK K
            try simp only [List.setIfInBounds_toArray, List.set_cons_succ, List.set_cons_zero]
            refine wpAnyH_take (i := 8) (v := ?vt28_8) rfl (by kernel_rfl) (by kernel_rfl) (by kernel_rfl) (fun c a w h => HQP.out c a _ _ w h) (Or.inl ⟨by rfl, ?hyt28_8⟩) (by assumption) ?restt28_8
            case hyt28_8 => (intro w hSw; (try dsimp only at hSw); go_simp) <;> with_reducible rfl
            simp only [Act.put, List.getElem_toArray, List.getElem_cons_succ, List.getElem_cons_zero, List.setIfInBounds_toArray, List.set_cons_succ, List.set_cons_zero]
            refine wpAnyH_take (i := 9) (v := ?vt28_9) rfl (by kernel_rfl) (by kernel_rfl) (by kernel_rfl) (fun c a w h => HQP.out c a _ _ w h) (Or.inl ⟨by rfl, ?hyt28_9⟩) (by assumption) ?restt28_9
            case hyt28_9 => (intro w hSw; (try dsimp only at hSw); go_simp) <;> with_reducible rfl
            simp only [Act.put, List.getElem_toArray, List.getElem_cons_succ, List.getElem_cons_zero, List.setIfInBounds_toArray, List.set_cons_succ, List.set_cons_zero]
            refine wpAnyH_take (i := 10) (v := ?vt28_10) rfl (by kernel_rfl) (by kernel_rfl) (by kernel_rfl) (fun c a w h => HQP.out c a _ _ w h) (Or.inl ⟨by rfl, ?hyt28_10⟩) (by assumption) ?restt28_10
            case hyt28_10 => (intro w hSw; (try dsimp only at hSw); go_simp) <;> with_reducible rfl
            simp only [Act.put, List.getElem_toArray, List.getElem_cons_succ, List.getElem_cons_zero, List.setIfInBounds_toArray, List.set_cons_succ, List.set_cons_zero]
            refine wpAnyH_take (i := 11) (v := ?vt28_11) rfl (by kernel_rfl) (by kernel_rfl) (by kernel_rfl) (fun c a w h => HQP.out c a _ _ w h) (Or.inl ⟨by rfl, ?hyt28_11⟩) (by assumption) ?restt28_11
            case hyt28_11 => (intro w hSw; (try dsimp only at hSw); go_simp) <;> with_reducible rfl
            simp only [Act.put, List.getElem_toArray, List.getElem_cons_succ, List.getElem_cons_zero, List.setIfInBounds_toArray, List.set_cons_succ, List.set_cons_zero]
            have h := st3_11 g11 wx hA2.out
            rw [hO.out, hA.out] at h
            simp only [Act.put, List.setIfInBounds_toArray, List.set_cons_succ, List.set_cons_zero] at h
            exact h
          refine AllReadyH.cons rfl (fun K hK => ?_) ?_
          · refine step_alloc29 HZ9.out rfl rfl ?_
            have hA2 := Lib.hid (Al.new (l1 := []) (l2 := [g11]) hAl.out)
            refine hK.out _ _ (KS.out _ hA2.out.bel) (fun hHeld => ?_)
            clear hK K
            try simp only [Act.put, List.getElem_toArray, List.getElem_cons_succ, List.getElem_cons_zero, List.setIfInBounds_toArray, List.set_cons_succ, List.set_cons_zero]
            have h := st2_1011 w'.heap.size g11 _ hA2.out
            rw [hO.out, hA.out] at h
            simp only [Act.put, List.setIfInBounds_toArray, List.set_cons_succ, List.set_cons_zero] at h
            exact h
          refine AllReadyH.cons rfl (fun K hK => ?_) AllReadyH.nil
          refine step_alloc29 HZ9.out rfl rfl ?_
          have hA2 := Lib.hid (Al.new (l1 := [g11]) (l2 := []) hAl.out)
          refine hK.out _ _ (KS.out _ hA2.out.bel) (fun hHeld => ?_)
          clear hK K
          try simp only [Act.put, List.getElem_toArray, List.getElem_cons_succ, List.getElem_cons_zero, List.setIfInBounds_toArray, List.set_cons_succ, List.set_cons_zero]
          have h := st2_1112 g11 w'.heap.size _ hA2.out
          rw [hO.out, hA.out] at h
          simp only [Act.put, List.setIfInBounds_toArray, List.set_cons_succ, List.set_cons_zero] at h
          exact h
        have st2_12 : ∀ (g12 : Nat) (w' : World), Al w5 w' Z9 [g12] → wpAnyH Try.prog .any OPS QQ (fun w' => w'.cell? ⟨A, 0, none⟩ = some (.int .i64 (p : Nat))) 10 #[true, true, true, true, true, true, true, false, false, false, false, false, false, false, true, false, false, false] (((AA.put (some 12) (.pointer (some ⟨g12, 0, none⟩))).put (some 49) (.agg M1)).put (some 53) (.agg M2)) w' := by
          intro g12 w' hAl0
          have hAl := Lib.hid hAl0
          clear hAl0
          rw [hO.out, hA.out]
          try simp only [Act.put, List.setIfInBounds_toArray, List.set_cons_succ, List.set_cons_zero]
          refine wpAnyH_ready (rs := [7, 12, 13]) (by kernel_rfl) (by simp) ?_
          refine AllReadyH.cons rfl (fun K hK => ?_) ?_
          · go_simp
            refine (HM3.out w' hAl.out.bel).mono ?_
            rintro e wx ⟨rfl, hb⟩
            have hA2 := Lib.hid (hAl.out.keep hb)
            clear hb
            refine hK.out _ _ (KS.out _ hA2.out.bel) (fun hHeld => ?_)
            clear hK K
            try simp only [List.setIfInBounds_toArray, List.set_cons_succ, List.set_cons_zero]
            refine wpAnyH_take (i := 8) (v := ?vt32_8) rfl (by kernel_rfl) (by kernel_rfl) (by kernel_rfl) (fun c a w h => HQP.out c a _ _ w h) (Or.inl ⟨by rfl, ?hyt32_8⟩) (by assumption) ?restt32_8
            case hyt32_8 => (intro w hSw; (try dsimp only at hSw); go_simp) <;> with_reducible rfl
            simp only [Act.put, List.getElem_toArray, List.getElem_cons_succ, List.getElem_cons_zero, List.setIfInBounds_toArray, List.set_cons_succ, List.set_cons_zero]
            refine wpAnyH_take (i := 9) (v := ?vt32_9) rfl (by kernel_rfl) (by kernel_rfl) (by kernel_rfl) (fun c a w h => HQP.out c a _ _ w h) (Or.inl ⟨by rfl, ?hyt32_9⟩) (by assumption) ?restt32_9
            case hyt32_9 => (intro w hSw; (try dsimp only at hSw); go_simp) <;> with_reducible rfl
            simp only [Act.put, List.getElem_toArray, List.getElem_cons_succ, List.getElem_cons_zero, List.setIfInBounds_toArray, List.set_cons_succ, List.set_cons_zero]
            refine wpAnyH_take (i := 10) (v := ?vt32_10) rfl (by kernel_rfl) (by kernel_rfl) (by kernel_rfl) (fun c a w h => HQP.out c a _ _ w h) (Or.inl ⟨by rfl, ?hyt32_10⟩) (by assumption) ?restt32_10
            case hyt32_10 => (intro w hSw; (try dsimp only at hSw); go_simp) <;> with_reducible rfl
            simp only [Act.put, List.getElem_toArray, List.getElem_cons_succ, List.getElem_cons_zero, List.setIfInBounds_toArray, List.set_cons_succ, List.set_cons_zero]
            refine wpAnyH_take (i := 11) (v := ?vt32_11) rfl (by kernel_rfl) (by kernel_rfl) (by kernel_rfl) (fun c a w h => HQP.out c a _ _ w h) (Or.inl ⟨by rfl, ?hyt32_11⟩) (by assumption) ?restt32_11
            case hyt32_11 => (intro w hSw; (try dsimp only at hSw); go_simp) <;> with_reducible rfl
            simp only [Act.put, List.getElem_toArray, List.getElem_cons_succ, List.getElem_cons_zero, List.setIfInBounds_toArray, List.set_cons_succ, List.set_cons_zero]
            have h := st3_12 g12 wx hA2.out
            rw [hO.out, hA.out] at h
            simp only [Act.put, List.setIfInBounds_toArray, List.set_cons_succ, List.set_cons_zero] at h
            exact h
          refine AllReadyH.cons rfl (fun K hK => ?_) ?_
          · refine step_alloc29 HZ9.out rfl rfl ?_
            have hA2 := Lib.hid (Al.new (l1 := []) (l2 := [g12]) hAl.out)
            refine hK.out _ _ (KS.out _ hA2.out.bel) (fun hHeld => ?_)
            clear hK K
            try simp only [Act.put, List.getElem_toArray, List.getElem_cons_succ, List.getElem_cons_zero, List.setIfInBounds_toArray, List.set_cons_succ, List.set_cons_zero]
            have h := st2_1012 w'.heap.size g12 _ hA2.out
            rw [hO.out, hA.out] at h
            simp only [Act.put, List.setIfInBounds_toArray, List.set_cons_succ, List.set_cons_zero] at h
            exact h
          refine AllReadyH.cons rfl (fun K hK => ?_) AllReadyH.nil
          refine step_alloc29 HZ9.out rfl rfl ?_
          have hA2 := Lib.hid (Al.new (l1 := []) (l2 := [g12]) hAl.out)
          refine hK.out _ _ (KS.out _ hA2.out.bel) (fun hHeld => ?_)
          clear hK K
          try simp only [Act.put, List.getElem_toArray, List.getElem_cons_succ, List.getElem_cons_zero, List.setIfInBounds_toArray, List.set_cons_succ, List.set_cons_zero]
          have h := st2_1112 w'.heap.size g12 _ hA2.out
          rw [hO.out, hA.out] at h
          simp only [Act.put, List.setIfInBounds_toArray, List.set_cons_succ, List.set_cons_zero] at h
          exact h
        have st2_0 : ∀ (w' : World), Al w5 w' Z9 [] → wpAnyH Try.prog .any OPS QQ (fun w' => w'.cell? ⟨A, 0, none⟩ = some (.int .i64 (p : Nat))) 11 #[true, true, true, true, true, true, true, false, false, false, false, false, false, false, false, false, false, false] ((AA.put (some 49) (.agg M1)).put (some 53) (.agg M2)) w' := by
          intro w' hAl0
          have hAl := Lib.hid hAl0
          clear hAl0
          rw [hO.out, hA.out]
          try simp only [Act.put, List.setIfInBounds_toArray, List.set_cons_succ, List.set_cons_zero]
          refine wpAnyH_ready (rs := [7, 12, 13, 14]) (by kernel_rfl) (by simp) ?_
          refine AllReadyH.cons rfl (fun K hK => ?_) ?_
          · go_simp
            refine (HM3.out w' hAl.out.bel).mono ?_
            rintro e wx ⟨rfl, hb⟩
            have hA2 := Lib.hid (hAl.out.keep hb)
            clear hb
            refine hK.out _ _ (KS.out _ hA2.out.bel) (fun hHeld => ?_)
            clear hK K
            try simp only [List.setIfInBounds_toArray, List.set_cons_succ, List.set_cons_zero]
            refine wpAnyH_take (i := 8) (v := ?vt36_8) rfl (by kernel_rfl) (by kernel_rfl) (by kernel_rfl) (fun c a w h => HQP.out c a _ _ w h) (Or.inl ⟨by rfl, ?hyt36_8⟩) (by assumption) ?restt36_8
            case hyt36_8 => (intro w hSw; (try dsimp only at hSw); go_simp) <;> with_reducible rfl
            simp only [Act.put, List.getElem_toArray, List.getElem_cons_succ, List.getElem_cons_zero, List.setIfInBounds_toArray, List.set_cons_succ, List.set_cons_zero]
            refine wpAnyH_take (i := 9) (v := ?vt36_9) rfl (by kernel_rfl) (by kernel_rfl) (by kernel_rfl) (fun c a w h => HQP.out c a _ _ w h) (Or.inl ⟨by rfl, ?hyt36_9⟩) (by assumption) ?restt36_9
            case hyt36_9 => (intro w hSw; (try dsimp only at hSw); go_simp) <;> with_reducible rfl
            simp only [Act.put, List.getElem_toArray, List.getElem_cons_succ, List.getElem_cons_zero, List.setIfInBounds_toArray, List.set_cons_succ, List.set_cons_zero]
            refine wpAnyH_take (i := 10) (v := ?vt36_10) rfl (by kernel_rfl) (by kernel_rfl) (by kernel_rfl) (fun c a w h => HQP.out c a _ _ w h) (Or.inl ⟨by rfl, ?hyt36_10⟩) (by assumption) ?restt36_10
            case hyt36_10 => (intro w hSw; (try dsimp only at hSw); go_simp) <;> with_reducible rfl
            simp only [Act.put, List.getElem_toArray, List.getElem_cons_succ, List.getElem_cons_zero, List.setIfInBounds_toArray, List.set_cons_succ, List.set_cons_zero]
            refine wpAnyH_take (i := 11) (v := ?vt36_11) rfl (by kernel_rfl) (by kernel_rfl) (by kernel_rfl) (fun c a w h => HQP.out c a _ _ w h) (Or.inl ⟨by rfl, ?hyt36_11⟩) (by assumption) ?restt36_11
            case hyt36_11 => (intro w hSw; (try dsimp only at hSw); go_simp) <;> with_reducible rfl
            simp only [Act.put, List.getElem_toArray, List.getElem_cons_succ, List.getElem_cons_zero, List.setIfInBounds_toArray, List.set_cons_succ, List.set_cons_zero]
            have h := st3_0  wx hA2.out
            rw [hO.out, hA.out] at h
            simp only [Act.put, List.setIfInBounds_toArray, List.set_cons_succ, List.set_cons_zero] at h
            exact h
          refine AllReadyH.cons rfl (fun K hK => ?_) ?_
          · refine step_alloc29 HZ9.out rfl rfl ?_
            have hA2 := Lib.hid (Al.new (l1 := []) (l2 := []) hAl.out)
            refine hK.out _ _ (KS.out _ hA2.out.bel) (fun hHeld => ?_)
            clear hK K
            try simp only [Act.put, List.getElem_toArray, List.getElem_cons_succ, List.getElem_cons_zero, List.setIfInBounds_toArray, List.set_cons_succ, List.set_cons_zero]
            have h := st2_10 w'.heap.size _ hA2.out
            rw [hO.out, hA.out] at h
            simp only [Act.put, List.setIfInBounds_toArray, List.set_cons_succ, List.set_cons_zero] at h
            exact h
          refine AllReadyH.cons rfl (fun K hK => ?_) ?_
          · refine step_alloc29 HZ9.out rfl rfl ?_
            have hA2 := Lib.hid (Al.new (l1 := []) (l2 := []) hAl.out)
            refine hK.out _ _ (KS.out _ hA2.out.bel) (fun hHeld => ?_)
            clear hK K
            try simp only [Act.put, List.getElem_toArray, List.getElem_cons_succ, List.getElem_cons_zero, List.setIfInBounds_toArray, List.set_cons_succ, List.set_cons_zero]
            have h := st2_11 w'.heap.size _ hA2.out
            rw [hO.out, hA.out] at h
            simp only [Act.put, List.setIfInBounds_toArray, List.set_cons_succ, List.set_cons_zero] at h
            exact h
          refine AllReadyH.cons rfl (fun K hK => ?_) AllReadyH.nil
          refine step_alloc29 HZ9.out rfl rfl ?_
          have hA2 := Lib.hid (Al.new (l1 := []) (l2 := []) hAl.out)
          refine hK.out _ _ (KS.out _ hA2.out.bel) (fun hHeld => ?_)
          clear hK K
          try simp only [Act.put, List.getElem_toArray, List.getElem_cons_succ, List.getElem_cons_zero, List.setIfInBounds_toArray, List.set_cons_succ, List.set_cons_zero]
          have h := st2_12 w'.heap.size _ hA2.out
          rw [hO.out, hA.out] at h
          simp only [Act.put, List.setIfInBounds_toArray, List.set_cons_succ, List.set_cons_zero] at h
          exact h
        have st1_101112 : ∀ (g10 g11 g12 : Nat) (w' : World), Al w5 w' Z9 [g10, g11, g12] → wpAnyH Try.prog .any OPS QQ (fun w' => w'.cell? ⟨A, 0, none⟩ = some (.int .i64 (p : Nat))) 9 #[true, true, true, true, true, true, false, false, false, false, false, false, true, true, true, false, false, false] ((((AA.put (some 10) (.pointer (some ⟨g10, 0, none⟩))).put (some 11) (.pointer (some ⟨g11, 0, none⟩))).put (some 12) (.pointer (some ⟨g12, 0, none⟩))).put (some 49) (.agg M1)) w' := by
          intro g10 g11 g12 w' hAl0
          have hAl := Lib.hid hAl0
          clear hAl0
          rw [hO.out, hA.out]
          try simp only [Act.put, List.setIfInBounds_toArray, List.set_cons_succ, List.set_cons_zero]
          refine wpAnyH_ready (rs := [6]) (by kernel_rfl) (by simp) ?_
          refine AllReadyH.cons rfl (fun K hK => ?_) AllReadyH.nil
          go_simp
          refine (HM2.out w' hAl.out.bel).mono ?_
          rintro e wx ⟨rfl, hb⟩
          have hA2 := Lib.hid (hAl.out.keep hb)
          clear hb
          refine hK.out _ _ (KS.out _ hA2.out.bel) (fun hHeld => ?_)
          clear hK K
          try simp only [List.setIfInBounds_toArray, List.set_cons_succ, List.set_cons_zero]
          have h := st2_101112 g10 g11 g12 wx hA2.out
          rw [hO.out, hA.out] at h
          simp only [Act.put, List.setIfInBounds_toArray, List.set_cons_succ, List.set_cons_zero] at h
          exact h
        have st1_1011 : ∀ (g10 g11 : Nat) (w' : World), Al w5 w' Z9 [g10, g11] → wpAnyH Try.prog .any OPS QQ (fun w' => w'.cell? ⟨A, 0, none⟩ = some (.int .i64 (p : Nat))) 10 #[true, true, true, true, true, true, false, false, false, false, false, false, true, true, false, false, false, false] (((AA.put (some 10) (.pointer (some ⟨g10, 0, none⟩))).put (some 11) (.pointer (some ⟨g11, 0, none⟩))).put (some 49) (.agg M1)) w' := by
          intro g10 g11 w' hAl0
          have hAl := Lib.hid hAl0
          clear hAl0
          rw [hO.out, hA.out]
          try simp only [Act.put, List.setIfInBounds_toArray, List.set_cons_succ, List.set_cons_zero]
          refine wpAnyH_ready (rs := [6, 14]) (by kernel_rfl) (by simp) ?_
          refine AllReadyH.cons rfl (fun K hK => ?_) ?_
          · go_simp
            refine (HM2.out w' hAl.out.bel).mono ?_
            rintro e wx ⟨rfl, hb⟩
            have hA2 := Lib.hid (hAl.out.keep hb)
            clear hb
            refine hK.out _ _ (KS.out _ hA2.out.bel) (fun hHeld => ?_)
            clear hK K
            try simp only [List.setIfInBounds_toArray, List.set_cons_succ, List.set_cons_zero]
            have h := st2_1011 g10 g11 wx hA2.out
            rw [hO.out, hA.out] at h
            simp only [Act.put, List.setIfInBounds_toArray, List.set_cons_succ, List.set_cons_zero] at h
            exact h
          refine AllReadyH.cons rfl (fun K hK => ?_) AllReadyH.nil
          refine step_alloc29 HZ9.out rfl rfl ?_
          have hA2 := Lib.hid (Al.new (l1 := [g10, g11]) (l2 := []) hAl.out)
          refine hK.out _ _ (KS.out _ hA2.out.bel) (fun hHeld => ?_)
          clear hK K
          try simp only [Act.put, List.getElem_toArray, List.getElem_cons_succ, List.getElem_cons_zero, List.setIfInBounds_toArray, List.set_cons_succ, List.set_cons_zero]
          have h := st1_101112 g10 g11 w'.heap.size _ hA2.out
          rw [hO.out, hA.out] at h
          simp only [Act.put, List.setIfInBounds_toArray, List.set_cons_succ, List.set_cons_zero] at h
          exact h
        have st1_1012 : ∀ (g10 g12 : Nat) (w' : World), Al w5 w' Z9 [g10, g12] → wpAnyH Try.prog .any OPS QQ (fun w' => w'.cell? ⟨A, 0, none⟩ = some (.int .i64 (p : Nat))) 10 #[true, true, true, true, true, true, false, false, false, false, false, false, true, false, true, false, false, false] (((AA.put (some 10) (.pointer (some ⟨g10, 0, none⟩))).put (some 12) (.pointer (some ⟨g12, 0, none⟩))).put (some 49) (.agg M1)) w' := by
          intro g10 g12 w' hAl0
          have hAl := Lib.hid hAl0
          clear hAl0
          rw [hO.out, hA.out]
          try simp only [Act.put, List.setIfInBounds_toArray, List.set_cons_succ, List.set_cons_zero]
          refine wpAnyH_ready (rs := [6, 13]) (by kernel_rfl) (by simp) ?_
          refine AllReadyH.cons rfl (fun K hK => ?_) ?_
          · go_simp
            refine (HM2.out w' hAl.out.bel).mono ?_
            rintro e wx ⟨rfl, hb⟩
            have hA2 := Lib.hid (hAl.out.keep hb)
            clear hb
            refine hK.out _ _ (KS.out _ hA2.out.bel) (fun hHeld => ?_)
            clear hK K
            try simp only [List.setIfInBounds_toArray, List.set_cons_succ, List.set_cons_zero]
            have h := st2_1012 g10 g12 wx hA2.out
            rw [hO.out, hA.out] at h
            simp only [Act.put, List.setIfInBounds_toArray, List.set_cons_succ, List.set_cons_zero] at h
            exact h
          refine AllReadyH.cons rfl (fun K hK => ?_) AllReadyH.nil
          refine step_alloc29 HZ9.out rfl rfl ?_
          have hA2 := Lib.hid (Al.new (l1 := [g10]) (l2 := [g12]) hAl.out)
          refine hK.out _ _ (KS.out _ hA2.out.bel) (fun hHeld => ?_)
          clear hK K
          try simp only [Act.put, List.getElem_toArray, List.getElem_cons_succ, List.getElem_cons_zero, List.setIfInBounds_toArray, List.set_cons_succ, List.set_cons_zero]
          have h := st1_101112 g10 w'.heap.size g12 _ hA2.out
          rw [hO.out, hA.out] at h
          simp only [Act.put, List.setIfInBounds_toArray, List.set_cons_succ, List.set_cons_zero] at h
          exact h
        have st1_1112 : ∀ (g11 g12 : Nat) (w' : World), Al w5 w' Z9 [g11, g12] → wpAnyH Try.prog .any OPS QQ (fun w' => w'.cell? ⟨A, 0, none⟩ = some (.int .i64 (p : Nat))) 10 #[true, true, true, true, true, true, false, false, false, false, false, false, false, true, true, false, false, false] (((AA.put (some 11) (.pointer (some ⟨g11, 0, none⟩))).put (some 12) (.pointer (some ⟨g12, 0, none⟩))).put (some 49) (.agg M1)) w' := by
          intro g11 g12 w' hAl0
          have hAl := Lib.hid hAl0
          clear hAl0
          rw [hO.out, hA.out]
          try simp only [Act.put, List.setIfInBounds_toArray, List.set_cons_succ, List.set_cons_zero]
          refine wpAnyH_ready (rs := [6, 12]) (by kernel_rfl) (by simp) ?_
          refine AllReadyH.cons rfl (fun K hK => ?_) ?_
          · go_simp
            refine (HM2.out w' hAl.out.bel).mono ?_
            rintro e wx ⟨rfl, hb⟩
            have hA2 := Lib.hid (hAl.out.keep hb)
            clear hb
            refine hK.out _ _ (KS.out _ hA2.out.bel) (fun hHeld => ?_)
            clear hK K
            try simp only [List.setIfInBounds_toArray, List.set_cons_succ, List.set_cons_zero]
            have h := st2_1112 g11 g12 wx hA2.out
            rw [hO.out, hA.out] at h
            simp only [Act.put, List.setIfInBounds_toArray, List.set_cons_succ, List.set_cons_zero] at h
            exact h
          refine AllReadyH.cons rfl (fun K hK => ?_) AllReadyH.nil
          refine step_alloc29 HZ9.out rfl rfl ?_
          have hA2 := Lib.hid (Al.new (l1 := []) (l2 := [g11, g12]) hAl.out)
          refine hK.out _ _ (KS.out _ hA2.out.bel) (fun hHeld => ?_)
          clear hK K
          try simp only [Act.put, List.getElem_toArray, List.getElem_cons_succ, List.getElem_cons_zero, List.setIfInBounds_toArray, List.set_cons_succ, List.set_cons_zero]
          have h := st1_101112 w'.heap.size g11 g12 _ hA2.out
          rw [hO.out, hA.out] at h
          simp only [Act.put, List.setIfInBounds_toArray, List.set_cons_succ, List.set_cons_zero] at h
          exact h
        have st1_10 : ∀ (g10 : Nat) (w' : World), Al w5 w' Z9 [g10] → wpAnyH Try.prog .any OPS QQ (fun w' => w'.cell? ⟨A, 0, none⟩ = some (.int .i64 (p : Nat))) 11 #[true, true, true, true, true, true, false, false, false, false, false, false, true, false, false, false, false, false] ((AA.put (some 10) (.pointer (some ⟨g10, 0, none⟩))).put (some 49) (.agg M1)) w' := by
          intro g10 w' hAl0
          have hAl := Lib.hid hAl0
          clear hAl0
          rw [hO.out, hA.out]
          try simp only [Act.put, List.setIfInBounds_toArray, List.set_cons_succ, List.set_cons_zero]
          refine wpAnyH_ready (rs := [6, 13, 14]) (by kernel_rfl) (by simp) ?_
          refine AllReadyH.cons rfl (fun K hK => ?_) ?_
          · go_simp
            refine (HM2.out w' hAl.out.bel).mono ?_
            rintro e wx ⟨rfl, hb⟩
            have hA2 := Lib.hid (hAl.out.keep hb)
            clear hb
            refine hK.out _ _ (KS.out _ hA2.out.bel) (fun hHeld => ?_)
            clear hK K
            try simp only [List.setIfInBounds_toArray, List.set_cons_succ, List.set_cons_zero]
            have h := st2_10 g10 wx hA2.out
            rw [hO.out, hA.out] at h
            simp only [Act.put, List.setIfInBounds_toArray, List.set_cons_succ, List.set_cons_zero] at h
            exact h
          refine AllReadyH.cons rfl (fun K hK => ?_) ?_
          · refine step_alloc29 HZ9.out rfl rfl ?_
            have hA2 := Lib.hid (Al.new (l1 := [g10]) (l2 := []) hAl.out)
            refine hK.out _ _ (KS.out _ hA2.out.bel) (fun hHeld => ?_)
            clear hK K
            try simp only [Act.put, List.getElem_toArray, List.getElem_cons_succ, List.getElem_cons_zero, List.setIfInBounds_toArray, List.set_cons_succ, List.set_cons_zero]
            have h := st1_1011 g10 w'.heap.size _ hA2.out
            rw [hO.out, hA.out] at h
            simp only [Act.put, List.setIfInBounds_toArray, List.set_cons_succ, List.set_cons_zero] at h
            exact h
          refine AllReadyH.cons rfl (fun K hK => ?_) AllReadyH.nil
          refine step_alloc29 HZ9.out rfl rfl ?_
          have hA2 := Lib.hid (Al.new (l1 := [g10]) (l2 := []) hAl.out)
          refine hK.out _ _ (KS.out _ hA2.out.bel) (fun hHeld => ?_)
          clear hK K
          try simp only [Act.put, List.getElem_toArray, List.getElem_cons_succ, List.getElem_cons_zero, List.setIfInBounds_toArray, List.set_cons_succ, List.set_cons_zero]
          have h := st1_1012 g10 w'.heap.size _ hA2.out
          rw [hO.out, hA.out] at h
          simp only [Act.put, List.setIfInBounds_toArray, List.set_cons_succ, List.set_cons_zero] at h
          exact h
        have st1_11 : ∀ (g11 : Nat) (w' : World), Al w5 w' Z9 [g11] → wpAnyH Try.prog .any OPS QQ (fun w' => w'.cell? ⟨A, 0, none⟩ = some (.int .i64 (p : Nat))) 11 #[true, true, true, true, true, true, false, false, false, false, false, false, false, true, false, false, false, false] ((AA.put (some 11) (.pointer (some ⟨g11, 0, none⟩))).put (some 49) (.agg M1)) w' := by
          intro g11 w' hAl0
          have hAl := Lib.hid hAl0
          clear hAl0
          rw [hO.out, hA.out]
          try simp only [Act.put, List.setIfInBounds_toArray, List.set_cons_succ, List.set_cons_zero]
          refine wpAnyH_ready (rs := [6, 12, 14]) (by kernel_rfl) (by simp) ?_
          refine AllReadyH.cons rfl (fun K hK => ?_) ?_
          · go_simp
            refine (HM2.out w' hAl.out.bel).mono ?_
            rintro e wx ⟨rfl, hb⟩
            have hA2 := Lib.hid (hAl.out.keep hb)
            clear hb
            refine hK.out _ _ (KS.out _ hA2.out.bel) (fun hHeld => ?_)
            clear hK K
            try simp only [List.setIfInBounds_toArray, List.set_cons_succ, List.set_cons_zero]
            have h := st2_11 g11 wx hA2.out
            rw [hO.out, hA.out] at h
            simp only [Act.put, List.setIfInBounds_toArray, List.set_cons_succ, List.set_cons_zero] at h
            exact h
          refine AllReadyH.cons rfl (fun K hK => ?_) ?_
          · refine step_alloc29 HZ9.out rfl rfl ?_
            have hA2 := Lib.hid (Al.new (l1 := []) (l2 := [g11]) hAl.out)
            refine hK.out _ _ (KS.out _ hA2.out.bel) (fun hHeld => ?_)
            clear hK K
            try simp only [Act.put, List.getElem_toArray, List.getElem_cons_succ, List.getElem_cons_zero, List.setIfInBounds_toArray, List.set_cons_succ, List.set_cons_zero]
            have h := st1_1011 w'.heap.size g11 _ hA2.out
            rw [hO.out, hA.out] at h
            simp only [Act.put, List.setIfInBounds_toArray, List.set_cons_succ, List.set_cons_zero] at h
            exact h
          refine AllReadyH.cons rfl (fun K hK => ?_) AllReadyH.nil
          refine step_alloc29 HZ9.out rfl rfl ?_
          have hA2 := Lib.hid (Al.new (l1 := [g11]) (l2 := []) hAl.out)
          refine hK.out _ _ (KS.out _ hA2.out.bel) (fun hHeld => ?_)
          clear hK K
          try simp only [Act.put, List.getElem_toArray, List.getElem_cons_succ, List.getElem_cons_zero, List.setIfInBounds_toArray, List.set_cons_succ, List.set_cons_zero]
          have h := st1_1112 g11 w'.heap.size _ hA2.out
          rw [hO.out, hA.out] at h
          simp only [Act.put, List.setIfInBounds_toArray, List.set_cons_succ, List.set_cons_zero] at h
          exact h
        have st1_12 : ∀ (g12 : Nat) (w' : World), Al w5 w' Z9 [g12] → wpAnyH Try.prog .any OPS QQ (fun w' => w'.cell? ⟨A, 0, none⟩ = some (.int .i64 (p : Nat))) 11 #[true, true, true, true, true, true, false, false, false, false, false, false, false, false, true, false, false, false] ((AA.put (some 12) (.pointer (some ⟨g12, 0, none⟩))).put (some 49) (.agg M1)) w' := by
          intro g12 w' hAl0
          have hAl := Lib.hid hAl0
          clear hAl0
          rw [hO.out, hA.out]
          try simp only [Act.put, List.setIfInBounds_toArray, List.set_cons_succ, List.set_cons_zero]
          refine wpAnyH_ready (rs := [6, 12, 13]) (by kernel_rfl) (by simp) ?_
          refine AllReadyH.cons rfl (fun K hK => ?_) ?_
          · go_simp
            refine (HM2.out w' hAl.out.bel).mono ?_
            rintro e wx ⟨rfl, hb⟩
            have hA2 := Lib.hid (hAl.out.keep hb)
            clear hb
            refine hK.out _ _ (KS.out _ hA2.out.bel) (fun hHeld => ?_)
            clear hK K
            try simp only [List.setIfInBounds_toArray, List.set_cons_succ, List.set_cons_zero]
            have h := st2_12 g12 wx hA2.out
            rw [hO.out, hA.out] at h
            simp only [Act.put, List.setIfInBounds_toArray, List.set_cons_succ, List.set_cons_zero] at h
            exact h
          refine AllReadyH.cons rfl (fun K hK => ?_) ?_
          · refine step_alloc29 HZ9.out rfl rfl ?_
            have hA2 := Lib.hid (Al.new (l1 := []) (l2 := [g12]) hAl.out)
            refine hK.out _ _ (KS.out _ hA2.out.bel) (fun hHeld => ?_)
            clear hK K
            try simp only [Act.put, List.getElem_toArray, List.getElem_cons_succ, List.getElem_cons_zero, List.setIfInBounds_toArray, List.set_cons_succ, List.set_cons_zero]
            have h := st1_1012 w'.heap.size g12 _ hA2.out
            rw [hO.out, hA.out] at h
            simp only [Act.put, List.setIfInBounds_toArray, List.set_cons_succ, List.set_cons_zero] at h
            exact h
          refine AllReadyH.cons rfl (fun K hK => ?_) AllReadyH.nil
          refine step_alloc29 HZ9.out rfl rfl ?_
          have hA2 := Lib.hid (Al.new (l1 := []) (l2 := [g12]) hAl.out)
          refine hK.out _ _ (KS.out _ hA2.out.bel) (fun hHeld => ?_)
          clear hK K
          try simp only [Act.put, List.getElem_toArray, List.getElem_cons_succ, List.getElem_cons_zero, List.setIfInBounds_toArray, List.set_cons_succ, List.set_cons_zero]
          have h := st1_1112 w'.heap.size g12 _ hA2.out
          rw [hO.out, hA.out] at h
          simp only [Act.put, List.setIfInBounds_toArray, List.set_cons_succ, List.set_cons_zero] at h
          exact h
        have st1_0 : ∀ (w' : World), Al w5 w' Z9 [] → wpAnyH Try.prog .any OPS QQ (fun w' => w'.cell? ⟨A, 0, none⟩ = some (.int .i64 (p : Nat))) 12 #[true, true, true, true, true, true, false, false, false, false, false, false, false, false, false, false, false, false] (AA.put (some 49) (.agg M1)) w' := by
          intro w' hAl0
          have hAl := Lib.hid hAl0
          clear hAl0
          rw [hO.out, hA.out]
          try simp only [Act.put, List.setIfInBounds_toArray, List.set_cons_succ, List.set_cons_zero]
          refine wpAnyH_ready (rs := [6, 12, 13, 14]) (by kernel_rfl) (by simp) ?_
          refine AllReadyH.cons rfl (fun K hK => ?_) ?_
          · go_simp
            refine (HM2.out w' hAl.out.bel).mono ?_
            rintro e wx ⟨rfl, hb⟩
            have hA2 := Lib.hid (hAl.out.keep hb)
            clear hb
            refine hK.out _ _ (KS.out _ hA2.out.bel) (fun hHeld => ?_)
            clear hK K
            try simp only [List.setIfInBounds_toArray, List.set_cons_succ, List.set_cons_zero]
            have h := st2_0  wx hA2.out
            rw [hO.out, hA.out] at h
            simp only [Act.put, List.setIfInBounds_toArray, List.set_cons_succ, List.set_cons_zero] at h
            exact h
          refine AllReadyH.cons rfl (fun K hK => ?_) ?_
          · refine step_alloc29 HZ9.out rfl rfl ?_
            have hA2 := Lib.hid (Al.new (l1 := []) (l2 := []) hAl.out)
            refine hK.out _ _ (KS.out _ hA2.out.bel) (fun hHeld => ?_)
            clear hK K
            try simp only [Act.put, List.getElem_toArray, List.getElem_cons_succ, List.getElem_cons_zero, List.setIfInBounds_toArray, List.set_cons_succ, List.set_cons_zero]
            have h := st1_10 w'.heap.size _ hA2.out
            rw [hO.out, hA.out] at h
            simp only [Act.put, List.setIfInBounds_toArray, List.set_cons_succ, List.set_cons_zero] at h
            exact h
          refine AllReadyH.cons rfl (fun K hK => ?_) ?_
          · refine step_alloc29 HZ9.out rfl rfl ?_
            have hA2 := Lib.hid (Al.new (l1 := []) (l2 := []) hAl.out)
            refine hK.out _ _ (KS.out _ hA2.out.bel) (fun hHeld => ?_)
            clear hK K
            try simp only [Act.put, List.getElem_toArray, List.getElem_cons_succ, List.getElem_cons_zero, List.setIfInBounds_toArray, List.set_cons_succ, List.set_cons_zero]
            have h := st1_11 w'.heap.size _ hA2.out
            rw [hO.out, hA.out] at h
            simp only [Act.put, List.setIfInBounds_toArray, List.set_cons_succ, List.set_cons_zero] at h
            exact h
          refine AllReadyH.cons rfl (fun K hK => ?_) AllReadyH.nil
          refine step_alloc29 HZ9.out rfl rfl ?_
          have hA2 := Lib.hid (Al.new (l1 := []) (l2 := []) hAl.out)
          refine hK.out _ _ (KS.out _ hA2.out.bel) (fun hHeld => ?_)
          clear hK K
          try simp only [Act.put, List.getElem_toArray, List.getElem_cons_succ, List.getElem_cons_zero, List.setIfInBounds_toArray, List.set_cons_succ, List.set_cons_zero]
          have h := st1_12 w'.heap.size _ hA2.out
          rw [hO.out, hA.out] at h
          simp only [Act.put, List.setIfInBounds_toArray, List.set_cons_succ, List.set_cons_zero] at h
          exact h
        have st0_101112 : ∀ (g10 g11 g12 : Nat) (w' : World), Al w5 w' Z9 [g10, g11, g12] → wpAnyH Try.prog .any OPS QQ (fun w' => w'.cell? ⟨A, 0, none⟩ = some (.int .i64 (p : Nat))) 10 #[true, true, false, true, true, true, false, false, false, false, false, false, true, true, true, false, false, false] (((AA.put (some 10) (.pointer (some ⟨g10, 0, none⟩))).put (some 11) (.pointer (some ⟨g11, 0, none⟩))).put (some 12) (.pointer (some ⟨g12, 0, none⟩))) w' := by
          intro g10 g11 g12 w' hAl0
          have hAl := Lib.hid hAl0
          clear hAl0
          rw [hO.out, hA.out]
          try simp only [Act.put, List.setIfInBounds_toArray, List.set_cons_succ, List.set_cons_zero]
          refine wpAnyH_ready (rs := [2]) (by kernel_rfl) (by simp) ?_
          refine AllReadyH.cons rfl (fun K hK => ?_) AllReadyH.nil
          go_simp
          refine (HM1.out w' hAl.out.bel).mono ?_
          rintro e wx ⟨rfl, hb⟩
          have hA2 := Lib.hid (hAl.out.keep hb)
          clear hb
          refine hK.out _ _ (KS.out _ hA2.out.bel) (fun hHeld => ?_)
          clear hK K
          try simp only [List.setIfInBounds_toArray, List.set_cons_succ, List.set_cons_zero]
          have h := st1_101112 g10 g11 g12 wx hA2.out
          rw [hO.out, hA.out] at h
          simp only [Act.put, List.setIfInBounds_toArray, List.set_cons_succ, List.set_cons_zero] at h
          exact h
        have st0_1011 : ∀ (g10 g11 : Nat) (w' : World), Al w5 w' Z9 [g10, g11] → wpAnyH Try.prog .any OPS QQ (fun w' => w'.cell? ⟨A, 0, none⟩ = some (.int .i64 (p : Nat))) 11 #[true, true, false, true, true, true, false, false, false, false, false, false, true, true, false, false, false, false] ((AA.put (some 10) (.pointer (some ⟨g10, 0, none⟩))).put (some 11) (.pointer (some ⟨g11, 0, none⟩))) w' := by
          intro g10 g11 w' hAl0
          have hAl := Lib.hid hAl0
          clear hAl0
          rw [hO.out, hA.out]
          try simp only [Act.put, List.setIfInBounds_toArray, List.set_cons_succ, List.set_cons_zero]
          refine wpAnyH_ready (rs := [2, 14]) (by kernel_rfl) (by simp) ?_
          refine AllReadyH.cons rfl (fun K hK => ?_) ?_
          · go_simp
            refine (HM1.out w' hAl.out.bel).mono ?_
            rintro e wx ⟨rfl, hb⟩
            have hA2 := Lib.hid (hAl.out.keep hb)
            clear hb
            refine hK.out _ _ (KS.out _ hA2.out.bel) (fun hHeld => ?_)
            clear hK K
            try simp only [List.setIfInBounds_toArray, List.set_cons_succ, List.set_cons_zero]
            have h := st1_1011 g10 g11 wx hA2.out
            rw [hO.out, hA.out] at h
            simp only [Act.put, List.setIfInBounds_toArray, List.set_cons_succ, List.set_cons_zero] at h
            exact h
          refine AllReadyH.cons rfl (fun K hK => ?_) AllReadyH.nil
          refine step_alloc29 HZ9.out rfl rfl ?_
          have hA2 := Lib.hid (Al.new (l1 := [g10, g11]) (l2 := []) hAl.out)
          refine hK.out _ _ (KS.out _ hA2.out.bel) (fun hHeld => ?_)
          clear hK K
          try simp only [Act.put, List.getElem_toArray, List.getElem_cons_succ, List.getElem_cons_zero, List.setIfInBounds_toArray, List.set_cons_succ, List.set_cons_zero]
          have h := st0_101112 g10 g11 w'.heap.size _ hA2.out
          rw [hO.out, hA.out] at h
          simp only [Act.put, List.setIfInBounds_toArray, List.set_cons_succ, List.set_cons_zero] at h
          exact h
        have st0_1012 : ∀ (g10 g12 : Nat) (w' : World), Al w5 w' Z9 [g10, g12] → wpAnyH Try.prog .any OPS QQ (fun w' => w'.cell? ⟨A, 0, none⟩ = some (.int .i64 (p : Nat))) 11 #[true, true, false, true, true, true, false, false, false, false, false, false, true, false, true, false, false, false] ((AA.put (some 10) (.pointer (some ⟨g10, 0, none⟩))).put (some 12) (.pointer (some ⟨g12, 0, none⟩))) w' := by
          intro g10 g12 w' hAl0
          have hAl := Lib.hid hAl0
          clear hAl0
          rw [hO.out, hA.out]
          try simp only [Act.put, List.setIfInBounds_toArray, List.set_cons_succ, List.set_cons_zero]
          refine wpAnyH_ready (rs := [2, 13]) (by kernel_rfl) (by simp) ?_
          refine AllReadyH.cons rfl (fun K hK => ?_) ?_
          · go_simp
            refine (HM1.out w' hAl.out.bel).mono ?_
            rintro e wx ⟨rfl, hb⟩
            have hA2 := Lib.hid (hAl.out.keep hb)
            clear hb
            refine hK.out _ _ (KS.out _ hA2.out.bel) (fun hHeld => ?_)
            clear hK K
            try simp only [List.setIfInBounds_toArray, List.set_cons_succ, List.set_cons_zero]
            have h := st1_1012 g10 g12 wx hA2.out
            rw [hO.out, hA.out] at h
            simp only [Act.put, List.setIfInBounds_toArray, List.set_cons_succ, List.set_cons_zero] at h
            exact h
          refine AllReadyH.cons rfl (fun K hK => ?_) AllReadyH.nil
          refine step_alloc29 HZ9.out rfl rfl ?_
          have hA2 := Lib.hid (Al.new (l1 := [g10]) (l2 := [g12]) hAl.out)
          refine hK.out _ _ (KS.out _ hA2.out.bel) (fun hHeld => ?_)
          clear hK K
          try simp only [Act.put, List.getElem_toArray, List.getElem_cons_succ, List.getElem_cons_zero, List.setIfInBounds_toArray, List.set_cons_succ, List.set_cons_zero]
          have h := st0_101112 g10 w'.heap.size g12 _ hA2.out
          rw [hO.out, hA.out] at h
          simp only [Act.put, List.setIfInBounds_toArray, List.set_cons_succ, List.set_cons_zero] at h
          exact h
        have st0_1112 : ∀ (g11 g12 : Nat) (w' : World), Al w5 w' Z9 [g11, g12] → wpAnyH Try.prog .any OPS QQ (fun w' => w'.cell? ⟨A, 0, none⟩ = some (.int .i64 (p : Nat))) 11 #[true, true, false, true, true, true, false, false, false, false, false, false, false, true, true, false, false, false] ((AA.put (some 11) (.pointer (some ⟨g11, 0, none⟩))).put (some 12) (.pointer (some ⟨g12, 0, none⟩))) w' := by
          intro g11 g12 w' hAl0
          have hAl := Lib.hid hAl0
          clear hAl0
          rw [hO.out, hA.out]
          try simp only [Act.put, List.setIfInBounds_toArray, List.set_cons_succ, List.set_cons_zero]
          refine wpAnyH_ready (rs := [2, 12]) (by kernel_rfl) (by simp) ?_
          refine AllReadyH.cons rfl (fun K hK => ?_) ?_
          · go_simp
            refine (HM1.out w' hAl.out.bel).mono ?_
            rintro e wx ⟨rfl, hb⟩
            have hA2 := Lib.hid (hAl.out.keep hb)
            clear hb
            refine hK.out _ _ (KS.out _ hA2.out.bel) (fun hHeld => ?_)
            clear hK K
            try simp only [List.setIfInBounds_toArray, List.set_cons_succ, List.set_cons_zero]
            have h := st1_1112 g11 g12 wx hA2.out
            rw [hO.out, hA.out] at h
            simp only [Act.put, List.setIfInBounds_toArray, List.set_cons_succ, List.set_cons_zero] at h
            exact h
          refine AllReadyH.cons rfl (fun K hK => ?_) AllReadyH.nil
          refine step_alloc29 HZ9.out rfl rfl ?_
          have hA2 := Lib.hid (Al.new (l1 := []) (l2 := [g11, g12]) hAl.out)
          refine hK.out _ _ (KS.out _ hA2.out.bel) (fun hHeld => ?_)
          clear hK K
          try simp only [Act.put, List.getElem_toArray, List.getElem_cons_succ, List.getElem_cons_zero, List.setIfInBounds_toArray, List.set_cons_succ, List.set_cons_zero]
          have h := st0_101112 w'.heap.size g11 g12 _ hA2.out
          rw [hO.out, hA.out] at h
          simp only [Act.put, List.setIfInBounds_toArray, List.set_cons_succ, List.set_cons_zero] at h
          exact h
        have st0_10 : ∀ (g10 : Nat) (w' : World), Al w5 w' Z9 [g10] → wpAnyH Try.prog .any OPS QQ (fun w' => w'.cell? ⟨A, 0, none⟩ = some (.int .i64 (p : Nat))) 12 #[true, true, false, true, true, true, false, false, false, false, false, false, true, false, false, false, false, false] (AA.put (some 10) (.pointer (some ⟨g10, 0, none⟩))) w' := by
          intro g10 w' hAl0
          have hAl := Lib.hid hAl0
          clear hAl0
          rw [hO.out, hA.out]
          try simp only [Act.put, List.setIfInBounds_toArray, List.set_cons_succ, List.set_cons_zero]
          refine wpAnyH_ready (rs := [2, 13, 14]) (by kernel_rfl) (by simp) ?_
          refine AllReadyH.cons rfl (fun K hK => ?_) ?_
          · go_simp
            refine (HM1.out w' hAl.out.bel).mono ?_
            rintro e wx ⟨rfl, hb⟩
            have hA2 := Lib.hid (hAl.out.keep hb)
            clear hb
            refine hK.out _ _ (KS.out _ hA2.out.bel) (fun hHeld => ?_)
            clear hK K
            try simp only [List.setIfInBounds_toArray, List.set_cons_succ, List.set_cons_zero]
            have h := st1_10 g10 wx hA2.out
            rw [hO.out, hA.out] at h
            simp only [Act.put, List.setIfInBounds_toArray, List.set_cons_succ, List.set_cons_zero] at h
            exact h
          refine AllReadyH.cons rfl (fun K hK => ?_) ?_
          · refine step_alloc29 HZ9.out rfl rfl ?_
            have hA2 := Lib.hid (Al.new (l1 := [g10]) (l2 := []) hAl.out)
            refine hK.out _ _ (KS.out _ hA2.out.bel) (fun hHeld => ?_)
            clear hK K
            try simp only [Act.put, List.getElem_toArray, List.getElem_cons_succ, List.getElem_cons_zero, List.setIfInBounds_toArray, List.set_cons_succ, List.set_cons_zero]
            have h := st0_1011 g10 w'.heap.size _ hA2.out
            rw [hO.out, hA.out] at h
            simp only [Act.put, List.setIfInBounds_toArray, List.set_cons_succ, List.set_cons_zero] at h
            exact h
          refine AllReadyH.cons rfl (fun K hK => ?_) AllReadyH.nil
          refine step_alloc29 HZ9.out rfl rfl ?_
          have hA2 := Lib.hid (Al.new (l1 := [g10]) (l2 := []) hAl.out)
          refine hK.out _ _ (KS.out _ hA2.out.bel) (fun hHeld => ?_)
          clear hK K
          try simp only [Act.put, List.getElem_toArray, List.getElem_cons_succ, List.getElem_cons_zero, List.setIfInBounds_toArray, List.set_cons_succ, List.set_cons_zero]
          have h := st0_1012 g10 w'.heap.size _ hA2.out
          rw [hO.out, hA.out] at h
          simp only [Act.put, List.setIfInBounds_toArray, List.set_cons_succ, List.set_cons_zero] at h
          exact h
        have st0_11 : ∀ (g11 : Nat) (w' : World), Al w5 w' Z9 [g11] → wpAnyH Try.prog .any OPS QQ (fun w' => w'.cell? ⟨A, 0, none⟩ = some (.int .i64 (p : Nat))) 12 #[true, true, false, true, true, true, false, false, false, false, false, false, false, true, false, false, false, false] (AA.put (some 11) (.pointer (some ⟨g11, 0, none⟩))) w' := by
          intro g11 w' hAl0
          have hAl := Lib.hid hAl0
          clear hAl0
          rw [hO.out, hA.out]
          try simp only [Act.put, List.setIfInBounds_toArray, List.set_cons_succ, List.set_cons_zero]
          refine wpAnyH_ready (rs := [2, 12, 14]) (by kernel_rfl) (by simp) ?_
          refine AllReadyH.cons rfl (fun K hK => ?_) ?_
          · go_simp
            refine (HM1.out w' hAl.out.bel).mono ?_
            rintro e wx ⟨rfl, hb⟩
            have hA2 := Lib.hid (hAl.out.keep hb)
            clear hb
            refine hK.out _ _ (KS.out _ hA2.out.bel) (fun hHeld => ?_)
            clear hK K
            try simp only [List.setIfInBounds_toArray, List.set_cons_succ, List.set_cons_zero]
            have h := st1_11 g11 wx hA2.out
            rw [hO.out, hA.out] at h
            simp only [Act.put, List.setIfInBounds_toArray, List.set_cons_succ, List.set_cons_zero] at h
            exact h
          refine AllReadyH.cons rfl (fun K hK => ?_) ?_
          · refine step_alloc29 HZ9.out rfl rfl ?_
            have hA2 := Lib.hid (Al.new (l1 := []) (l2 := [g11]) hAl.out)
            refine hK.out _ _ (KS.out _ hA2.out.bel) (fun hHeld => ?_)
            clear hK K
            try simp only [Act.put, List.getElem_toArray, List.getElem_cons_succ, List.getElem_cons_zero, List.setIfInBounds_toArray, List.set_cons_succ, List.set_cons_zero]
            have h := st0_1011 w'.heap.size g11 _ hA2.out
            rw [hO.out, hA.out] at h
            simp only [Act.put, List.setIfInBounds_toArray, List.set_cons_succ, List.set_cons_zero] at h
            exact h
          refine AllReadyH.cons rfl (fun K hK => ?_) AllReadyH.nil
          refine step_alloc29 HZ9.out rfl rfl ?_
          have hA2 := Lib.hid (Al.new (l1 := [g11]) (l2 := []) hAl.out)
          refine hK.out _ _ (KS.out _ hA2.out.bel) (fun hHeld => ?_)
          clear hK K
          try simp only [Act.put, List.getElem_toArray, List.getElem_cons_succ, List.getElem_cons_zero, List.setIfInBounds_toArray, List.set_cons_succ, List.set_cons_zero]
          have h := st0_1112 g11 w'.heap.size _ hA2.out
          rw [hO.out, hA.out] at h
          simp only [Act.put, List.setIfInBounds_toArray, List.set_cons_succ, List.set_cons_zero] at h
          exact h
        have st0_12 : ∀ (g12 : Nat) (w' : World), Al w5 w' Z9 [g12] → wpAnyH Try.prog .any OPS QQ (fun w' => w'.cell? ⟨A, 0, none⟩ = some (.int .i64 (p : Nat))) 12 #[true, true, false, true, true, true, false, false, false, false, false, false, false, false, true, false, false, false] (AA.put (some 12) (.pointer (some ⟨g12, 0, none⟩))) w' := by
          intro g12 w' hAl0
          have hAl := Lib.hid hAl0
          clear hAl0
          rw [hO.out, hA.out]
          try simp only [Act.put, List.setIfInBounds_toArray, List.set_cons_succ, List.set_cons_zero]
          refine wpAnyH_ready (rs := [2, 12, 13]) (by kernel_rfl) (by simp) ?_
          refine AllReadyH.cons rfl (fun K hK => ?_) ?_
          · go_simp
            refine (HM1.out w' hAl.out.bel).mono ?_
            rintro e wx ⟨rfl, hb⟩
            have hA2 := Lib.hid (hAl.out.keep hb)
            clear hb
            refine hK.out _ _ (KS.out _ hA2.out.bel) (fun hHeld => ?_)
            clear hK K
            try simp only [List.setIfInBounds_toArray, List.set_cons_succ, List.set_cons_zero]
            have h := st1_12 g12 wx hA2.out
            rw [hO.out, hA.out] at h
            simp only [Act.put, List.setIfInBounds_toArray, List.set_cons_succ, List.set_cons_zero] at h
            exact h
          refine AllReadyH.cons rfl (fun K hK => ?_) ?_
          · refine step_alloc29 HZ9.out rfl rfl ?_
            have hA2 := Lib.hid (Al.new (l1 := []) (l2 := [g12]) hAl.out)
            refine hK.out _ _ (KS.out _ hA2.out.bel) (fun hHeld => ?_)
            clear hK K
            try simp only [Act.put, List.getElem_toArray, List.getElem_cons_succ, List.getElem_cons_zero, List.setIfInBounds_toArray, List.set_cons_succ, List.set_cons_zero]
            have h := st0_1012 w'.heap.size g12 _ hA2.out
            rw [hO.out, hA.out] at h
            simp only [Act.put, List.setIfInBounds_toArray, List.set_cons_succ, List.set_cons_zero] at h
            exact h
          refine AllReadyH.cons rfl (fun K hK => ?_) AllReadyH.nil
          refine step_alloc29 HZ9.out rfl rfl ?_
          have hA2 := Lib.hid (Al.new (l1 := []) (l2 := [g12]) hAl.out)
          refine hK.out _ _ (KS.out _ hA2.out.bel) (fun hHeld => ?_)
          clear hK K
          try simp only [Act.put, List.getElem_toArray, List.getElem_cons_succ, List.getElem_cons_zero, List.setIfInBounds_toArray, List.set_cons_succ, List.set_cons_zero]
          have h := st0_1112 w'.heap.size g12 _ hA2.out
          rw [hO.out, hA.out] at h
          simp only [Act.put, List.setIfInBounds_toArray, List.set_cons_succ, List.set_cons_zero] at h
          exact h
        have st0_0 : ∀ (w' : World), Al w5 w' Z9 [] → wpAnyH Try.prog .any OPS QQ (fun w' => w'.cell? ⟨A, 0, none⟩ = some (.int .i64 (p : Nat))) 13 #[true, true, false, true, true, true, false, false, false, false, false, false, false, false, false, false, false, false] AA w' := by
          intro w' hAl0
          have hAl := Lib.hid hAl0
          clear hAl0
          rw [hO.out, hA.out]
          try simp only [Act.put, List.setIfInBounds_toArray, List.set_cons_succ, List.set_cons_zero]
          refine wpAnyH_ready (rs := [2, 12, 13, 14]) (by kernel_rfl) (by simp) ?_
          refine AllReadyH.cons rfl (fun K hK => ?_) ?_
          · go_simp
            refine (HM1.out w' hAl.out.bel).mono ?_
            rintro e wx ⟨rfl, hb⟩
            have hA2 := Lib.hid (hAl.out.keep hb)
            clear hb
            refine hK.out _ _ (KS.out _ hA2.out.bel) (fun hHeld => ?_)
            clear hK K
            try simp only [List.setIfInBounds_toArray, List.set_cons_succ, List.set_cons_zero]
            have h := st1_0  wx hA2.out
            rw [hO.out, hA.out] at h
            simp only [Act.put, List.setIfInBounds_toArray, List.set_cons_succ, List.set_cons_zero] at h
            exact h
          refine AllReadyH.cons rfl (fun K hK => ?_) ?_
          · refine step_alloc29 HZ9.out rfl rfl ?_
            have hA2 := Lib.hid (Al.new (l1 := []) (l2 := []) hAl.out)
            refine hK.out _ _ (KS.out _ hA2.out.bel) (fun hHeld => ?_)
            clear hK K
            try simp only [Act.put, List.getElem_toArray, List.getElem_cons_succ, List.getElem_cons_zero, List.setIfInBounds_toArray, List.set_cons_succ, List.set_cons_zero]
            have h := st0_10 w'.heap.size _ hA2.out
            rw [hO.out, hA.out] at h
            simp only [Act.put, List.setIfInBounds_toArray, List.set_cons_succ, List.set_cons_zero] at h
            exact h
          refine AllReadyH.cons rfl (fun K hK => ?_) ?_
          · refine step_alloc29 HZ9.out rfl rfl ?_
            have hA2 := Lib.hid (Al.new (l1 := []) (l2 := []) hAl.out)
            refine hK.out _ _ (KS.out _ hA2.out.bel) (fun hHeld => ?_)
            clear hK K
            try simp only [Act.put, List.getElem_toArray, List.getElem_cons_succ, List.getElem_cons_zero, List.setIfInBounds_toArray, List.set_cons_succ, List.set_cons_zero]
            have h := st0_11 w'.heap.size _ hA2.out
            rw [hO.out, hA.out] at h
            simp only [Act.put, List.setIfInBounds_toArray, List.set_cons_succ, List.set_cons_zero] at h
            exact h
          refine AllReadyH.cons rfl (fun K hK => ?_) AllReadyH.nil
          refine step_alloc29 HZ9.out rfl rfl ?_
          have hA2 := Lib.hid (Al.new (l1 := []) (l2 := []) hAl.out)
          refine hK.out _ _ (KS.out _ hA2.out.bel) (fun hHeld => ?_)
          clear hK K
          try simp only [Act.put, List.getElem_toArray, List.getElem_cons_succ, List.getElem_cons_zero, List.setIfInBounds_toArray, List.set_cons_succ, List.set_cons_zero]
          have h := st0_12 w'.heap.size _ hA2.out
          rw [hO.out, hA.out] at h
          simp only [Act.put, List.setIfInBounds_toArray, List.set_cons_succ, List.set_cons_zero] at h
          exact h
        exact st0_0 _ HAL0.out
    · obtain rfl : k = n := by omega
      have HBX := Lib.hid (HB1.out.trans (HBk.out.mono HB1.out.size))
      clear hlt hk
      go_wp2_with fail
      refine (lives_any _).mono ?_
      rintro r w8 ⟨rfl, hb8⟩
      have HB8 := Lib.hid (HBX.out.trans (hb8.mono HBX.out.size))
      clear hb8
      go_wp2_with fail
      go_ret
      exact ⟨rfl, HB8.out⟩
end Go.Proofs.Ytmbdhpibkhgkcaa
