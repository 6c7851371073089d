/- A call of the law TablePlays to both tables. No condition. -/
import Derived.Test.YtedhhohnbekelaaTh
import Derived.Test.YtedhhohnbekelaaSa
import Derived.Deep.RegionWith
import Derived.IntWalk
namespace Go.Proofs.Ytedhhohnbekelaa
open Go.RowKit Go.Deep

def DoTo (w0 : World) (base tb c bn bl rb rs : Nat) (vn vl : Value) (room : Nat) (Kp : List (Nat × Obj)) (W : List (Nat × Nat)) (r : Ending) (w' : World) : Prop :=
  r = .returned (.bool true) ∧ ∃ d' W', PrE w0 w' base tb c bn bl rb rs vn vl room Kp d' ⟨d'.n, d'.ts, W'⟩ ∧ Rel W' d'.R ∧ (∀ p ∈ W', p.2 < d'.n) ∧ W'.length ≤ W.length + 1

theorem rJoinD_len (n : Nat) (ts : Nat → Tk) (W : List (Nat × Nat)) (id on : Int) : (rJoinD n ts W id on).2.length ≤ W.length + 1 := by
  unfold rJoinD
  repeat' split
  all_goals simp
theorem addD_ge (n room : Nat) (ts : Nat → Tk) (t : Tk) : n ≤ (addD n room ts t).2.2.1 := by
  unfold addD
  repeat' split
  all_goals simp

theorem yields30m {a : Act} {o : Oper} {w : World} {V : Array Value} (x : Operand) (ho : o.op = .load 30 x) (A j : Nat) (hx : a.eval x = .pointer (some ⟨A, j, none⟩)) (hg : w.rangeAt A j V.toList) (h1 : (Try.prog.info? 30).map (·.size) = some V.toList.length) :
    (execOp a.eval o).run Try.prog w = .ok (.value (.agg V)) w := by
  unfold execOp
  simp only [ho, hx, Instr.loadAt, Instr.sureAddr, Sem.run_bind, Sem.run_pure, Result.andThen_ok, run_loadVar_mid w A j 30 V.toList _ hg Try.underlying30 rfl h1, Array.toArray_toList]

section
variable {w0 w : World} {base tb c bn bl rb rs room : Nat} {vn vl : Value} {Kp : List (Nat × Obj)} {d : Tb} {W : List (Nat × Nat)}

set_option maxRecDepth 100000 in
set_option maxHeartbeats 2000000 in
theorem do_set2 (h : PrE w0 w base tb c bn bl rb rs vn vl room Kp d ⟨d.n, d.ts, W⟩) (hr : Rel W d.R) (hw : ∀ p ∈ W, p.2 < d.n) (h100 : W.length < 100) (K : Int) (t : Tk) (id on : Int) (h0 : 0 ≤ K) (hk : K % 7 = 2) :
    Calls Try.prog 18 #[.pointer (some ⟨tb, 0, none⟩), .pointer (some ⟨rb, 0, none⟩), .agg (opArr ⟨K, t, id, on⟩)] w (DoTo w0 base tb c bn bl rb rs vn vl room Kp W) := by
  have e2 : (K % 7 == 2) = true := by simp [hk]
  have hmost : d.n ≤ room := by obtain ⟨lv, xl, xw, h⟩ := h; exact h.tab.most.1
  have HP := Lib.hid (h.new (opArr ⟨K, t, id, on⟩) 37)
  have HREL := Lib.hid hr
  have HWN := Lib.hid hw
  have h1 : (Try.prog.info? 30).map (·.size) = some (tkArr t).toList.length := by rw [Array.length_toList]; exact size30 _
  obtain ⟨OA, hOA⟩ : ∃ OA, OA = opArr ⟨K, t, id, on⟩ := ⟨_, rfl⟩
  rw [← hOA] at HP
  rw [← hOA]
  obtain ⟨TA, hTA⟩ : ∃ TA, TA = tkArr t := ⟨_, rfl⟩
  rw [← hTA] at h1
  have HOA := Lib.hid hOA
  have HTA := Lib.hid hTA
  clear h hr hw hOA hTA hk
  go_enter Try.func18, Try.ntmps18
  go_upto_region 1 with fail
  obtain ⟨A, hA⟩ : ∃ A, w.heap.size = A := ⟨_, rfl⟩
  obtain ⟨w1, hw1⟩ : ∃ w1, w.alloc (.cells OA 37) = w1 := ⟨_, rfl⟩
  rw [hA, hw1] at HP
  rw [hA, hw1]
  clear hA hw1
  obtain ⟨Kq, hKq⟩ : ∃ Kq, Kq = (A, Obj.cells OA 37 (0, 0)) :: Kp := ⟨_, rfl⟩
  rw [← hKq] at HP
  have HK1 := Lib.hid (show (A, Obj.cells OA 37 (0, 0)) ∈ Kq by rw [hKq]; exact List.mem_cons_self)
  have HK2 := Lib.hid (show ∀ p ∈ Kp, p ∈ Kq by rw [hKq]; exact fun p hp => List.mem_cons_of_mem _ hp)
  clear hKq
  have KS := Lib.hid (fun (w' : World) (hh : w'.heap[A]? = some (Obj.cells OA 37 (0, 0))) => show w'.cell? ⟨A, 30, none⟩ = some (.int .i64 id) ∧ w'.cell? ⟨A, 31, none⟩ = some (.int .i64 on) ∧ w'.rangeAt A 1 TA.toList from by
    have ho : OpAt w' A ⟨K, t, id, on⟩ := by unfold OpAt; rw [← HOA.out]; exact hh
    exact ⟨ho.c30, ho.c31, by rw [HTA.out]; exact ho.task⟩)
  have c0 : w1.cell? ⟨A, 0, none⟩ = some (.int .u64 K) := by
    have ho : OpAt w1 A ⟨K, t, id, on⟩ := by unfold OpAt; rw [← HOA.out]; exact HP.out.kept HK1.out
    exact ho.c0
  have HA := Lib.hid (fun (w' : World) (hh : PrE w0 w' base tb c bn bl rb rs vn vl room Kq d ⟨d.n, d.ts, W⟩) => PSet hh id t)
  have HB := Lib.hid (fun (w' : World) (d' : Tb) (hh : PrE w0 w' base tb c bn bl rb rs vn vl room Kq d' ⟨d.n, d.ts, W⟩) => QSet hh id t)
  have HD : (addD 0 0 d.ts t) = addD 0 0 d.ts t := rfl
  clear HD
  unfold tkV at HA HB
  rw [← HTA.out] at HA HB
  simp only at HB
  have HFIN := Lib.hid (fun (w' : World) (hh : PrE w0 w' base tb c bn bl rb rs vn vl room Kq ⟨d.n, (setD d.n d.ts id t).2, d.R⟩ ⟨d.n, (setD d.n d.ts id t).2, W⟩) => show ∃ d' W', PrE w0 w' base tb c bn bl rb rs vn vl room Kp d' ⟨d'.n, d'.ts, W'⟩ ∧ Rel W' d'.R ∧ (∀ p ∈ W', p.2 < d'.n) ∧ W'.length ≤ W.length + 1 from
    ⟨_, W, hh.less HK2.out, HREL.out, HWN.out, by omega⟩)
  generalize setD d.n d.ts id t = q at *
  obtain ⟨q1, q2⟩ := q
  simp only at HA HB HFIN
  go_wp2_with fail
  refine wp_region_held_drew (S := fun w' => w'.cell? ⟨A, 30, none⟩ = some (.int .i64 id) ∧ w'.cell? ⟨A, 31, none⟩ = some (.int .i64 on) ∧ w'.rangeAt A 1 TA.toList) (by kernel_rfl) (KS.out _ (HP.out.kept HK1.out)) (fun hHeld => ?_)
  refine wpAnyH_take (i := 0) (v := ?va0) rfl (by kernel_rfl) (by kernel_rfl) (by kernel_rfl) (fun _ _ _ h => h) (Or.inl ⟨by rfl, ?hya0⟩) (by assumption) ?resta0
  case hya0 => (intro w hSw; (try dsimp only at hSw); go_simp) <;> with_reducible rfl
  simp only [Act.put, List.getElem_toArray, List.getElem_cons_succ, List.getElem_cons_zero, List.setIfInBounds_toArray, List.set_cons_succ, List.set_cons_zero]
  refine wpAnyH_take (i := 1) (v := ?va1) rfl (by kernel_rfl) (by kernel_rfl) (by kernel_rfl) (fun _ _ _ h => h) (Or.inl ⟨by rfl, ?hya1⟩) (by assumption) ?resta1
  case hya1 => (intro w hSw; (try dsimp only at hSw); go_simp) <;> with_reducible rfl
  simp only [Act.put, List.getElem_toArray, List.getElem_cons_succ, List.getElem_cons_zero, List.setIfInBounds_toArray, List.set_cons_succ, List.set_cons_zero]
  refine wpAnyH_take (i := 2) (v := ?va2) rfl (by kernel_rfl) (by kernel_rfl) (by kernel_rfl) (fun _ _ _ h => h) (Or.inl ⟨by rfl, ?hya2⟩) (by assumption) ?resta2
  case hya2 => (intro w hSw; (try dsimp only at hSw); go_simp) <;> with_reducible rfl
  simp only [Act.put, List.getElem_toArray, List.getElem_cons_succ, List.getElem_cons_zero, List.setIfInBounds_toArray, List.set_cons_succ, List.set_cons_zero]
  refine wpAnyH_take (i := 3) (v := ?va3) rfl (by kernel_rfl) (by kernel_rfl) (by kernel_rfl) (fun _ _ _ h => h) (Or.inl ⟨by rfl, ?hya3⟩) (by assumption) ?resta3
  case hya3 => (intro w hSw; (try dsimp only at hSw); go_simp) <;> with_reducible rfl
  simp only [Act.put, List.getElem_toArray, List.getElem_cons_succ, List.getElem_cons_zero, List.setIfInBounds_toArray, List.set_cons_succ, List.set_cons_zero]
  refine wpAnyH_take (i := 4) (v := .agg TA) rfl (by kernel_rfl) (by kernel_rfl) (by kernel_rfl) (fun _ _ _ h => h) (Or.inl ⟨by rfl, ?hylset24⟩) (by assumption) ?restlset24
  case hylset24 =>
    intro w hSw
    exact yields30m (.tmp 20) rfl A 1 rfl hSw.2.2 h1
  simp only [Act.put, List.getElem_toArray, List.getElem_cons_succ, List.getElem_cons_zero, List.setIfInBounds_toArray, List.set_cons_succ, List.set_cons_zero]
  refine wpAnyH_take (i := 6) (v := ?vb6) rfl (by kernel_rfl) (by kernel_rfl) (by kernel_rfl) (fun _ _ _ h => h) (Or.inl ⟨by rfl, ?hyb6⟩) (by assumption) ?restb6
  case hyb6 => (intro w hSw; (try dsimp only at hSw); go_simp) <;> with_reducible rfl
  simp only [Act.put, List.getElem_toArray, List.getElem_cons_succ, List.getElem_cons_zero, List.setIfInBounds_toArray, List.set_cons_succ, List.set_cons_zero]
  refine wpAnyH_take (i := 7) (v := ?vb7) rfl (by kernel_rfl) (by kernel_rfl) (by kernel_rfl) (fun _ _ _ h => h) (Or.inl ⟨by rfl, ?hyb7⟩) (by assumption) ?restb7
  case hyb7 => (intro w hSw; (try dsimp only at hSw); go_simp) <;> with_reducible rfl
  simp only [Act.put, List.getElem_toArray, List.getElem_cons_succ, List.getElem_cons_zero, List.setIfInBounds_toArray, List.set_cons_succ, List.set_cons_zero]
  refine wpAnyH_take (i := 8) (v := ?vb8) rfl (by kernel_rfl) (by kernel_rfl) (by kernel_rfl) (fun _ _ _ h => h) (Or.inl ⟨by rfl, ?hyb8⟩) (by assumption) ?restb8
  case hyb8 => (intro w hSw; (try dsimp only at hSw); go_simp) <;> with_reducible rfl
  simp only [Act.put, List.getElem_toArray, List.getElem_cons_succ, List.getElem_cons_zero, List.setIfInBounds_toArray, List.set_cons_succ, List.set_cons_zero]
  refine wpAnyH_take (i := 9) (v := ?vb9) rfl (by kernel_rfl) (by kernel_rfl) (by kernel_rfl) (fun _ _ _ h => h) (Or.inl ⟨by rfl, ?hyb9⟩) (by assumption) ?restb9
  case hyb9 => (intro w hSw; (try dsimp only at hSw); go_simp) <;> with_reducible rfl
  simp only [Act.put, List.getElem_toArray, List.getElem_cons_succ, List.getElem_cons_zero, List.setIfInBounds_toArray, List.set_cons_succ, List.set_cons_zero]
  refine wpAnyH_take (i := 10) (v := .agg TA) rfl (by kernel_rfl) (by kernel_rfl) (by kernel_rfl) (fun _ _ _ h => h) (Or.inl ⟨by rfl, ?hylset210⟩) (by assumption) ?restlset210
  case hylset210 =>
    intro w hSw
    exact yields30m (.tmp 26) rfl A 1 rfl hSw.2.2 h1
  simp only [Act.put, List.getElem_toArray, List.getElem_cons_succ, List.getElem_cons_zero, List.setIfInBounds_toArray, List.set_cons_succ, List.set_cons_zero]
  refine wpAnyH_ready (rs := [5]) (by kernel_rfl) (by simp) ?_
  refine AllReadyH.cons rfl (fun K hK => ?_) AllReadyH.nil
  go_simp
  refine (HA.out _ (HP.out.below (Below.refl _ _).drew)).mono ?_
  rintro e w2 ⟨rfl, h2⟩
  have HP2 := Lib.hid h2
  clear h2
  refine hK.out _ _ (KS.out _ (HP2.out.kept HK1.out)) (fun hHeld => ?_)
  clear hK K
  try simp only [Act.put, List.getElem_toArray, List.getElem_cons_succ, List.getElem_cons_zero, List.setIfInBounds_toArray, List.set_cons_succ, List.set_cons_zero]
  refine wpAnyH_ready (rs := [11]) (by kernel_rfl) (by simp) ?_
  refine AllReadyH.cons rfl (fun K hK => ?_) AllReadyH.nil
  go_simp
  refine (HB.out _ _ HP2.out).mono ?_
  rintro e w3 ⟨rfl, h3⟩
  have HP3 := Lib.hid h3
  clear h3
  refine hK.out _ _ (KS.out _ (HP3.out.kept HK1.out)) (fun hHeld => ?_)
  clear hK K
  try simp only [Act.put, List.getElem_toArray, List.getElem_cons_succ, List.getElem_cons_zero, List.setIfInBounds_toArray, List.set_cons_succ, List.set_cons_zero]
  refine wpAnyH_take (i := 12) (v := ?vz12) rfl (by kernel_rfl) (by kernel_rfl) (by kernel_rfl) (fun _ _ _ h => h) (Or.inl ⟨by rfl, ?hyz12⟩) (by assumption) ?restz12
  case hyz12 => (intro w hSw; (try dsimp only at hSw); go_simp) <;> with_reducible rfl
  simp only [Act.put, List.getElem_toArray, List.getElem_cons_succ, List.getElem_cons_zero, List.setIfInBounds_toArray, List.set_cons_succ, List.set_cons_zero]
  refine wpAnyH_take (i := 13) (v := ?vz13) rfl (by kernel_rfl) (by kernel_rfl) (by kernel_rfl) (fun _ _ _ h => h) (Or.inl ⟨by rfl, ?hyz13⟩) (by assumption) ?restz13
  case hyz13 => (intro w hSw; (try dsimp only at hSw); go_simp) <;> with_reducible rfl
  simp only [Act.put, List.getElem_toArray, List.getElem_cons_succ, List.getElem_cons_zero, List.setIfInBounds_toArray, List.set_cons_succ, List.set_cons_zero]
  refine wpAnyH_done (by kernel_rfl) ?_ _
  go_wp2_with fail
  go_ret
  exact ⟨by first | rfl | (simp; done), HFIN.out _ HP3.out⟩

set_option maxRecDepth 100000 in
set_option maxHeartbeats 2000000 in
theorem do_set3 (h : PrE w0 w base tb c bn bl rb rs vn vl room Kp d ⟨d.n, d.ts, W⟩) (hr : Rel W d.R) (hw : ∀ p ∈ W, p.2 < d.n) (h100 : W.length < 100) (K : Int) (t : Tk) (id on : Int) (h0 : 0 ≤ K) (hk : K % 7 = 3) :
    Calls Try.prog 18 #[.pointer (some ⟨tb, 0, none⟩), .pointer (some ⟨rb, 0, none⟩), .agg (opArr ⟨K, t, id, on⟩)] w (DoTo w0 base tb c bn bl rb rs vn vl room Kp W) := by
  have e2 : (K % 7 == 2) = false := by simp [hk]
  have e3 : (K % 7 == 3) = true := by simp [hk]
  have hmost : d.n ≤ room := by obtain ⟨lv, xl, xw, h⟩ := h; exact h.tab.most.1
  have HP := Lib.hid (h.new (opArr ⟨K, t, id, on⟩) 37)
  have HREL := Lib.hid hr
  have HWN := Lib.hid hw
  have h1 : (Try.prog.info? 30).map (·.size) = some (tkArr t).toList.length := by rw [Array.length_toList]; exact size30 _
  obtain ⟨OA, hOA⟩ : ∃ OA, OA = opArr ⟨K, t, id, on⟩ := ⟨_, rfl⟩
  rw [← hOA] at HP
  rw [← hOA]
  obtain ⟨TA, hTA⟩ : ∃ TA, TA = tkArr t := ⟨_, rfl⟩
  rw [← hTA] at h1
  have HOA := Lib.hid hOA
  have HTA := Lib.hid hTA
  clear h hr hw hOA hTA hk
  go_enter Try.func18, Try.ntmps18
  go_upto_region 1 with fail
  obtain ⟨A, hA⟩ : ∃ A, w.heap.size = A := ⟨_, rfl⟩
  obtain ⟨w1, hw1⟩ : ∃ w1, w.alloc (.cells OA 37) = w1 := ⟨_, rfl⟩
  rw [hA, hw1] at HP
  rw [hA, hw1]
  clear hA hw1
  obtain ⟨Kq, hKq⟩ : ∃ Kq, Kq = (A, Obj.cells OA 37 (0, 0)) :: Kp := ⟨_, rfl⟩
  rw [← hKq] at HP
  have HK1 := Lib.hid (show (A, Obj.cells OA 37 (0, 0)) ∈ Kq by rw [hKq]; exact List.mem_cons_self)
  have HK2 := Lib.hid (show ∀ p ∈ Kp, p ∈ Kq by rw [hKq]; exact fun p hp => List.mem_cons_of_mem _ hp)
  clear hKq
  have KS := Lib.hid (fun (w' : World) (hh : w'.heap[A]? = some (Obj.cells OA 37 (0, 0))) => show w'.cell? ⟨A, 30, none⟩ = some (.int .i64 id) ∧ w'.cell? ⟨A, 31, none⟩ = some (.int .i64 on) ∧ w'.rangeAt A 1 TA.toList from by
    have ho : OpAt w' A ⟨K, t, id, on⟩ := by unfold OpAt; rw [← HOA.out]; exact hh
    exact ⟨ho.c30, ho.c31, by rw [HTA.out]; exact ho.task⟩)
  have c0 : w1.cell? ⟨A, 0, none⟩ = some (.int .u64 K) := by
    have ho : OpAt w1 A ⟨K, t, id, on⟩ := by unfold OpAt; rw [← HOA.out]; exact HP.out.kept HK1.out
    exact ho.c0
  have HA := Lib.hid (fun (w' : World) (hh : PrE w0 w' base tb c bn bl rb rs vn vl room Kq d ⟨d.n, d.ts, W⟩) => PSet hh id t)
  have HB := Lib.hid (fun (w' : World) (d' : Tb) (hh : PrE w0 w' base tb c bn bl rb rs vn vl room Kq d' ⟨d.n, d.ts, W⟩) => QSet hh id t)
  have HD : (addD 0 0 d.ts t) = addD 0 0 d.ts t := rfl
  clear HD
  unfold tkV at HA HB
  rw [← HTA.out] at HA HB
  simp only at HB
  have HFIN := Lib.hid (fun (w' : World) (hh : PrE w0 w' base tb c bn bl rb rs vn vl room Kq ⟨d.n, (setD d.n d.ts id t).2, d.R⟩ ⟨d.n, (setD d.n d.ts id t).2, W⟩) => show ∃ d' W', PrE w0 w' base tb c bn bl rb rs vn vl room Kp d' ⟨d'.n, d'.ts, W'⟩ ∧ Rel W' d'.R ∧ (∀ p ∈ W', p.2 < d'.n) ∧ W'.length ≤ W.length + 1 from
    ⟨_, W, hh.less HK2.out, HREL.out, HWN.out, by omega⟩)
  generalize setD d.n d.ts id t = q at *
  obtain ⟨q1, q2⟩ := q
  simp only at HA HB HFIN
  go_wp2_with fail
  refine wp_region_held_drew (S := fun w' => w'.cell? ⟨A, 30, none⟩ = some (.int .i64 id) ∧ w'.cell? ⟨A, 31, none⟩ = some (.int .i64 on) ∧ w'.rangeAt A 1 TA.toList) (by kernel_rfl) (KS.out _ (HP.out.kept HK1.out)) (fun hHeld => ?_)
  refine wpAnyH_take (i := 0) (v := ?va0) rfl (by kernel_rfl) (by kernel_rfl) (by kernel_rfl) (fun _ _ _ h => h) (Or.inl ⟨by rfl, ?hya0⟩) (by assumption) ?resta0
  case hya0 => (intro w hSw; (try dsimp only at hSw); go_simp) <;> with_reducible rfl
  simp only [Act.put, List.getElem_toArray, List.getElem_cons_succ, List.getElem_cons_zero, List.setIfInBounds_toArray, List.set_cons_succ, List.set_cons_zero]
  refine wpAnyH_take (i := 1) (v := ?va1) rfl (by kernel_rfl) (by kernel_rfl) (by kernel_rfl) (fun _ _ _ h => h) (Or.inl ⟨by rfl, ?hya1⟩) (by assumption) ?resta1
  case hya1 => (intro w hSw; (try dsimp only at hSw); go_simp) <;> with_reducible rfl
  simp only [Act.put, List.getElem_toArray, List.getElem_cons_succ, List.getElem_cons_zero, List.setIfInBounds_toArray, List.set_cons_succ, List.set_cons_zero]
  refine wpAnyH_take (i := 2) (v := ?va2) rfl (by kernel_rfl) (by kernel_rfl) (by kernel_rfl) (fun _ _ _ h => h) (Or.inl ⟨by rfl, ?hya2⟩) (by assumption) ?resta2
  case hya2 => (intro w hSw; (try dsimp only at hSw); go_simp) <;> with_reducible rfl
  simp only [Act.put, List.getElem_toArray, List.getElem_cons_succ, List.getElem_cons_zero, List.setIfInBounds_toArray, List.set_cons_succ, List.set_cons_zero]
  refine wpAnyH_take (i := 3) (v := ?va3) rfl (by kernel_rfl) (by kernel_rfl) (by kernel_rfl) (fun _ _ _ h => h) (Or.inl ⟨by rfl, ?hya3⟩) (by assumption) ?resta3
  case hya3 => (intro w hSw; (try dsimp only at hSw); go_simp) <;> with_reducible rfl
  simp only [Act.put, List.getElem_toArray, List.getElem_cons_succ, List.getElem_cons_zero, List.setIfInBounds_toArray, List.set_cons_succ, List.set_cons_zero]
  refine wpAnyH_take (i := 4) (v := .agg TA) rfl (by kernel_rfl) (by kernel_rfl) (by kernel_rfl) (fun _ _ _ h => h) (Or.inl ⟨by rfl, ?hylset34⟩) (by assumption) ?restlset34
  case hylset34 =>
    intro w hSw
    exact yields30m (.tmp 20) rfl A 1 rfl hSw.2.2 h1
  simp only [Act.put, List.getElem_toArray, List.getElem_cons_succ, List.getElem_cons_zero, List.setIfInBounds_toArray, List.set_cons_succ, List.set_cons_zero]
  refine wpAnyH_take (i := 6) (v := ?vb6) rfl (by kernel_rfl) (by kernel_rfl) (by kernel_rfl) (fun _ _ _ h => h) (Or.inl ⟨by rfl, ?hyb6⟩) (by assumption) ?restb6
  case hyb6 => (intro w hSw; (try dsimp only at hSw); go_simp) <;> with_reducible rfl
  simp only [Act.put, List.getElem_toArray, List.getElem_cons_succ, List.getElem_cons_zero, List.setIfInBounds_toArray, List.set_cons_succ, List.set_cons_zero]
  refine wpAnyH_take (i := 7) (v := ?vb7) rfl (by kernel_rfl) (by kernel_rfl) (by kernel_rfl) (fun _ _ _ h => h) (Or.inl ⟨by rfl, ?hyb7⟩) (by assumption) ?restb7
  case hyb7 => (intro w hSw; (try dsimp only at hSw); go_simp) <;> with_reducible rfl
  simp only [Act.put, List.getElem_toArray, List.getElem_cons_succ, List.getElem_cons_zero, List.setIfInBounds_toArray, List.set_cons_succ, List.set_cons_zero]
  refine wpAnyH_take (i := 8) (v := ?vb8) rfl (by kernel_rfl) (by kernel_rfl) (by kernel_rfl) (fun _ _ _ h => h) (Or.inl ⟨by rfl, ?hyb8⟩) (by assumption) ?restb8
  case hyb8 => (intro w hSw; (try dsimp only at hSw); go_simp) <;> with_reducible rfl
  simp only [Act.put, List.getElem_toArray, List.getElem_cons_succ, List.getElem_cons_zero, List.setIfInBounds_toArray, List.set_cons_succ, List.set_cons_zero]
  refine wpAnyH_take (i := 9) (v := ?vb9) rfl (by kernel_rfl) (by kernel_rfl) (by kernel_rfl) (fun _ _ _ h => h) (Or.inl ⟨by rfl, ?hyb9⟩) (by assumption) ?restb9
  case hyb9 => (intro w hSw; (try dsimp only at hSw); go_simp) <;> with_reducible rfl
  simp only [Act.put, List.getElem_toArray, List.getElem_cons_succ, List.getElem_cons_zero, List.setIfInBounds_toArray, List.set_cons_succ, List.set_cons_zero]
  refine wpAnyH_take (i := 10) (v := .agg TA) rfl (by kernel_rfl) (by kernel_rfl) (by kernel_rfl) (fun _ _ _ h => h) (Or.inl ⟨by rfl, ?hylset310⟩) (by assumption) ?restlset310
  case hylset310 =>
    intro w hSw
    exact yields30m (.tmp 26) rfl A 1 rfl hSw.2.2 h1
  simp only [Act.put, List.getElem_toArray, List.getElem_cons_succ, List.getElem_cons_zero, List.setIfInBounds_toArray, List.set_cons_succ, List.set_cons_zero]
  refine wpAnyH_ready (rs := [5]) (by kernel_rfl) (by simp) ?_
  refine AllReadyH.cons rfl (fun K hK => ?_) AllReadyH.nil
  go_simp
  refine (HA.out _ (HP.out.below (Below.refl _ _).drew)).mono ?_
  rintro e w2 ⟨rfl, h2⟩
  have HP2 := Lib.hid h2
  clear h2
  refine hK.out _ _ (KS.out _ (HP2.out.kept HK1.out)) (fun hHeld => ?_)
  clear hK K
  try simp only [Act.put, List.getElem_toArray, List.getElem_cons_succ, List.getElem_cons_zero, List.setIfInBounds_toArray, List.set_cons_succ, List.set_cons_zero]
  refine wpAnyH_ready (rs := [11]) (by kernel_rfl) (by simp) ?_
  refine AllReadyH.cons rfl (fun K hK => ?_) AllReadyH.nil
  go_simp
  refine (HB.out _ _ HP2.out).mono ?_
  rintro e w3 ⟨rfl, h3⟩
  have HP3 := Lib.hid h3
  clear h3
  refine hK.out _ _ (KS.out _ (HP3.out.kept HK1.out)) (fun hHeld => ?_)
  clear hK K
  try simp only [Act.put, List.getElem_toArray, List.getElem_cons_succ, List.getElem_cons_zero, List.setIfInBounds_toArray, List.set_cons_succ, List.set_cons_zero]
  refine wpAnyH_take (i := 12) (v := ?vz12) rfl (by kernel_rfl) (by kernel_rfl) (by kernel_rfl) (fun _ _ _ h => h) (Or.inl ⟨by rfl, ?hyz12⟩) (by assumption) ?restz12
  case hyz12 => (intro w hSw; (try dsimp only at hSw); go_simp) <;> with_reducible rfl
  simp only [Act.put, List.getElem_toArray, List.getElem_cons_succ, List.getElem_cons_zero, List.setIfInBounds_toArray, List.set_cons_succ, List.set_cons_zero]
  refine wpAnyH_take (i := 13) (v := ?vz13) rfl (by kernel_rfl) (by kernel_rfl) (by kernel_rfl) (fun _ _ _ h => h) (Or.inl ⟨by rfl, ?hyz13⟩) (by assumption) ?restz13
  case hyz13 => (intro w hSw; (try dsimp only at hSw); go_simp) <;> with_reducible rfl
  simp only [Act.put, List.getElem_toArray, List.getElem_cons_succ, List.getElem_cons_zero, List.setIfInBounds_toArray, List.set_cons_succ, List.set_cons_zero]
  refine wpAnyH_done (by kernel_rfl) ?_ _
  go_wp2_with fail
  go_ret
  exact ⟨by first | rfl | (simp; done), HFIN.out _ HP3.out⟩

set_option maxRecDepth 100000 in
set_option maxHeartbeats 2000000 in
theorem do_join4 (h : PrE w0 w base tb c bn bl rb rs vn vl room Kp d ⟨d.n, d.ts, W⟩) (hr : Rel W d.R) (hw : ∀ p ∈ W, p.2 < d.n) (h100 : W.length < 100) (K : Int) (t : Tk) (id on : Int) (h0 : 0 ≤ K) (hk : K % 7 = 4) :
    Calls Try.prog 18 #[.pointer (some ⟨tb, 0, none⟩), .pointer (some ⟨rb, 0, none⟩), .agg (opArr ⟨K, t, id, on⟩)] w (DoTo w0 base tb c bn bl rb rs vn vl room Kp W) := by
  have e2 : (K % 7 == 2) = false := by simp [hk]
  have e3 : (K % 7 == 3) = false := by simp [hk]
  have e4 : (K % 7 == 4) = true := by simp [hk]
  have hmost : d.n ≤ room := by obtain ⟨lv, xl, xw, h⟩ := h; exact h.tab.most.1
  have HP := Lib.hid (h.new (opArr ⟨K, t, id, on⟩) 37)
  have HREL := Lib.hid hr
  have HWN := Lib.hid hw
  have h1 : (Try.prog.info? 30).map (·.size) = some (tkArr t).toList.length := by rw [Array.length_toList]; exact size30 _
  obtain ⟨j1, j2, j3⟩ := rel_join hr hw hmost (ts := d.ts) id on
  have j4 := rJoinD_len d.n d.ts W id on
  obtain ⟨OA, hOA⟩ : ∃ OA, OA = opArr ⟨K, t, id, on⟩ := ⟨_, rfl⟩
  rw [← hOA] at HP
  rw [← hOA]
  obtain ⟨TA, hTA⟩ : ∃ TA, TA = tkArr t := ⟨_, rfl⟩
  rw [← hTA] at h1
  have HOA := Lib.hid hOA
  have HTA := Lib.hid hTA
  clear h hr hw hOA hTA hk
  go_enter Try.func18, Try.ntmps18
  go_upto_region 1 with fail
  obtain ⟨A, hA⟩ : ∃ A, w.heap.size = A := ⟨_, rfl⟩
  obtain ⟨w1, hw1⟩ : ∃ w1, w.alloc (.cells OA 37) = w1 := ⟨_, rfl⟩
  rw [hA, hw1] at HP
  rw [hA, hw1]
  clear hA hw1
  obtain ⟨Kq, hKq⟩ : ∃ Kq, Kq = (A, Obj.cells OA 37 (0, 0)) :: Kp := ⟨_, rfl⟩
  rw [← hKq] at HP
  have HK1 := Lib.hid (show (A, Obj.cells OA 37 (0, 0)) ∈ Kq by rw [hKq]; exact List.mem_cons_self)
  have HK2 := Lib.hid (show ∀ p ∈ Kp, p ∈ Kq by rw [hKq]; exact fun p hp => List.mem_cons_of_mem _ hp)
  clear hKq
  have KS := Lib.hid (fun (w' : World) (hh : w'.heap[A]? = some (Obj.cells OA 37 (0, 0))) => show w'.cell? ⟨A, 30, none⟩ = some (.int .i64 id) ∧ w'.cell? ⟨A, 31, none⟩ = some (.int .i64 on) ∧ w'.rangeAt A 1 TA.toList from by
    have ho : OpAt w' A ⟨K, t, id, on⟩ := by unfold OpAt; rw [← HOA.out]; exact hh
    exact ⟨ho.c30, ho.c31, by rw [HTA.out]; exact ho.task⟩)
  have c0 : w1.cell? ⟨A, 0, none⟩ = some (.int .u64 K) := by
    have ho : OpAt w1 A ⟨K, t, id, on⟩ := by unfold OpAt; rw [← HOA.out]; exact HP.out.kept HK1.out
    exact ho.c0
  have HA := Lib.hid (fun (w' : World) (hh : PrE w0 w' base tb c bn bl rb rs vn vl room Kq d ⟨d.n, d.ts, W⟩) => PJoin hh id on)
  have HB := Lib.hid (fun (w' : World) (d' : Tb) (hh : PrE w0 w' base tb c bn bl rb rs vn vl room Kq d' ⟨d.n, d.ts, W⟩) => QJoin hh id on h100)
  simp only at HB
  rw [← j1] at HB
  have HFIN := Lib.hid (fun (w' : World) (hh : PrE w0 w' base tb c bn bl rb rs vn vl room Kq ⟨d.n, d.ts, (joinD d.n room d.ts d.R id on).2⟩ ⟨d.n, d.ts, (rJoinD d.n d.ts W id on).2⟩) => show ∃ d' W', PrE w0 w' base tb c bn bl rb rs vn vl room Kp d' ⟨d'.n, d'.ts, W'⟩ ∧ Rel W' d'.R ∧ (∀ p ∈ W', p.2 < d'.n) ∧ W'.length ≤ W.length + 1 from
    ⟨_, _, hh.less HK2.out, j2, j3, j4⟩)
  clear j1 j2 j3 j4
  generalize joinD d.n room d.ts d.R id on = q at *
  generalize rJoinD d.n d.ts W id on = p at *
  obtain ⟨q1, q2⟩ := q
  obtain ⟨p1, p2⟩ := p
  simp only at HA HB HFIN
  go_wp2_with fail
  refine wp_region_held_drew (S := fun w' => w'.cell? ⟨A, 30, none⟩ = some (.int .i64 id) ∧ w'.cell? ⟨A, 31, none⟩ = some (.int .i64 on) ∧ w'.rangeAt A 1 TA.toList) (by kernel_rfl) (KS.out _ (HP.out.kept HK1.out)) (fun hHeld => ?_)
  refine wpAnyH_take (i := 0) (v := ?va0) rfl (by kernel_rfl) (by kernel_rfl) (by kernel_rfl) (fun _ _ _ h => h) (Or.inl ⟨by rfl, ?hya0⟩) (by assumption) ?resta0
  case hya0 => (intro w hSw; (try dsimp only at hSw); go_simp) <;> with_reducible rfl
  simp only [Act.put, List.getElem_toArray, List.getElem_cons_succ, List.getElem_cons_zero, List.setIfInBounds_toArray, List.set_cons_succ, List.set_cons_zero]
  refine wpAnyH_take (i := 1) (v := ?va1) rfl (by kernel_rfl) (by kernel_rfl) (by kernel_rfl) (fun _ _ _ h => h) (Or.inl ⟨by rfl, ?hya1⟩) (by assumption) ?resta1
  case hya1 => (intro w hSw; (try dsimp only at hSw); go_simp) <;> with_reducible rfl
  simp only [Act.put, List.getElem_toArray, List.getElem_cons_succ, List.getElem_cons_zero, List.setIfInBounds_toArray, List.set_cons_succ, List.set_cons_zero]
  refine wpAnyH_take (i := 2) (v := ?va2) rfl (by kernel_rfl) (by kernel_rfl) (by kernel_rfl) (fun _ _ _ h => h) (Or.inl ⟨by rfl, ?hya2⟩) (by assumption) ?resta2
  case hya2 => (intro w hSw; (try dsimp only at hSw); go_simp) <;> with_reducible rfl
  simp only [Act.put, List.getElem_toArray, List.getElem_cons_succ, List.getElem_cons_zero, List.setIfInBounds_toArray, List.set_cons_succ, List.set_cons_zero]
  refine wpAnyH_take (i := 3) (v := ?va3) rfl (by kernel_rfl) (by kernel_rfl) (by kernel_rfl) (fun _ _ _ h => h) (Or.inl ⟨by rfl, ?hya3⟩) (by assumption) ?resta3
  case hya3 => (intro w hSw; (try dsimp only at hSw); go_simp) <;> with_reducible rfl
  simp only [Act.put, List.getElem_toArray, List.getElem_cons_succ, List.getElem_cons_zero, List.setIfInBounds_toArray, List.set_cons_succ, List.set_cons_zero]
  refine wpAnyH_take (i := 4) (v := ?va4) rfl (by kernel_rfl) (by kernel_rfl) (by kernel_rfl) (fun _ _ _ h => h) (Or.inl ⟨by rfl, ?hya4⟩) (by assumption) ?resta4
  case hya4 => (intro w hSw; (try dsimp only at hSw); go_simp) <;> with_reducible rfl
  simp only [Act.put, List.getElem_toArray, List.getElem_cons_succ, List.getElem_cons_zero, List.setIfInBounds_toArray, List.set_cons_succ, List.set_cons_zero]
  refine wpAnyH_take (i := 6) (v := ?va6) rfl (by kernel_rfl) (by kernel_rfl) (by kernel_rfl) (fun _ _ _ h => h) (Or.inl ⟨by rfl, ?hya6⟩) (by assumption) ?resta6
  case hya6 => (intro w hSw; (try dsimp only at hSw); go_simp) <;> with_reducible rfl
  simp only [Act.put, List.getElem_toArray, List.getElem_cons_succ, List.getElem_cons_zero, List.setIfInBounds_toArray, List.set_cons_succ, List.set_cons_zero]
  refine wpAnyH_take (i := 7) (v := ?va7) rfl (by kernel_rfl) (by kernel_rfl) (by kernel_rfl) (fun _ _ _ h => h) (Or.inl ⟨by rfl, ?hya7⟩) (by assumption) ?resta7
  case hya7 => (intro w hSw; (try dsimp only at hSw); go_simp) <;> with_reducible rfl
  simp only [Act.put, List.getElem_toArray, List.getElem_cons_succ, List.getElem_cons_zero, List.setIfInBounds_toArray, List.set_cons_succ, List.set_cons_zero]
  refine wpAnyH_take (i := 8) (v := ?va8) rfl (by kernel_rfl) (by kernel_rfl) (by kernel_rfl) (fun _ _ _ h => h) (Or.inl ⟨by rfl, ?hya8⟩) (by assumption) ?resta8
  case hya8 => (intro w hSw; (try dsimp only at hSw); go_simp) <;> with_reducible rfl
  simp only [Act.put, List.getElem_toArray, List.getElem_cons_succ, List.getElem_cons_zero, List.setIfInBounds_toArray, List.set_cons_succ, List.set_cons_zero]
  refine wpAnyH_take (i := 9) (v := ?va9) rfl (by kernel_rfl) (by kernel_rfl) (by kernel_rfl) (fun _ _ _ h => h) (Or.inl ⟨by rfl, ?hya9⟩) (by assumption) ?resta9
  case hya9 => (intro w hSw; (try dsimp only at hSw); go_simp) <;> with_reducible rfl
  simp only [Act.put, List.getElem_toArray, List.getElem_cons_succ, List.getElem_cons_zero, List.setIfInBounds_toArray, List.set_cons_succ, List.set_cons_zero]
  refine wpAnyH_take (i := 10) (v := ?va10) rfl (by kernel_rfl) (by kernel_rfl) (by kernel_rfl) (fun _ _ _ h => h) (Or.inl ⟨by rfl, ?hya10⟩) (by assumption) ?resta10
  case hya10 => (intro w hSw; (try dsimp only at hSw); go_simp) <;> with_reducible rfl
  simp only [Act.put, List.getElem_toArray, List.getElem_cons_succ, List.getElem_cons_zero, List.setIfInBounds_toArray, List.set_cons_succ, List.set_cons_zero]
  refine wpAnyH_ready (rs := [5]) (by kernel_rfl) (by simp) ?_
  refine AllReadyH.cons rfl (fun K hK => ?_) AllReadyH.nil
  go_simp
  refine (HA.out _ (HP.out.below (Below.refl _ _).drew)).mono ?_
  rintro e w2 ⟨rfl, h2⟩
  have HP2 := Lib.hid h2
  clear h2
  refine hK.out _ _ (KS.out _ (HP2.out.kept HK1.out)) (fun hHeld => ?_)
  clear hK K
  try simp only [Act.put, List.getElem_toArray, List.getElem_cons_succ, List.getElem_cons_zero, List.setIfInBounds_toArray, List.set_cons_succ, List.set_cons_zero]
  refine wpAnyH_ready (rs := [11]) (by kernel_rfl) (by simp) ?_
  refine AllReadyH.cons rfl (fun K hK => ?_) AllReadyH.nil
  go_simp
  refine (HB.out _ _ HP2.out).mono ?_
  rintro e w3 ⟨rfl, h3⟩
  have HP3 := Lib.hid h3
  clear h3
  refine hK.out _ _ (KS.out _ (HP3.out.kept HK1.out)) (fun hHeld => ?_)
  clear hK K
  try simp only [Act.put, List.getElem_toArray, List.getElem_cons_succ, List.getElem_cons_zero, List.setIfInBounds_toArray, List.set_cons_succ, List.set_cons_zero]
  refine wpAnyH_take (i := 12) (v := ?vz12) rfl (by kernel_rfl) (by kernel_rfl) (by kernel_rfl) (fun _ _ _ h => h) (Or.inl ⟨by rfl, ?hyz12⟩) (by assumption) ?restz12
  case hyz12 => (intro w hSw; (try dsimp only at hSw); go_simp) <;> with_reducible rfl
  simp only [Act.put, List.getElem_toArray, List.getElem_cons_succ, List.getElem_cons_zero, List.setIfInBounds_toArray, List.set_cons_succ, List.set_cons_zero]
  refine wpAnyH_take (i := 13) (v := ?vz13) rfl (by kernel_rfl) (by kernel_rfl) (by kernel_rfl) (fun _ _ _ h => h) (Or.inl ⟨by rfl, ?hyz13⟩) (by assumption) ?restz13
  case hyz13 => (intro w hSw; (try dsimp only at hSw); go_simp) <;> with_reducible rfl
  simp only [Act.put, List.getElem_toArray, List.getElem_cons_succ, List.getElem_cons_zero, List.setIfInBounds_toArray, List.set_cons_succ, List.set_cons_zero]
  refine wpAnyH_done (by kernel_rfl) ?_ _
  go_wp2_with fail
  go_ret
  exact ⟨by first | rfl | (simp; done), HFIN.out _ HP3.out⟩

set_option maxRecDepth 100000 in
set_option maxHeartbeats 2000000 in
theorem do_join5 (h : PrE w0 w base tb c bn bl rb rs vn vl room Kp d ⟨d.n, d.ts, W⟩) (hr : Rel W d.R) (hw : ∀ p ∈ W, p.2 < d.n) (h100 : W.length < 100) (K : Int) (t : Tk) (id on : Int) (h0 : 0 ≤ K) (hk : K % 7 = 5) :
    Calls Try.prog 18 #[.pointer (some ⟨tb, 0, none⟩), .pointer (some ⟨rb, 0, none⟩), .agg (opArr ⟨K, t, id, on⟩)] w (DoTo w0 base tb c bn bl rb rs vn vl room Kp W) := by
  have e2 : (K % 7 == 2) = false := by simp [hk]
  have e3 : (K % 7 == 3) = false := by simp [hk]
  have e4 : (K % 7 == 4) = false := by simp [hk]
  have e5 : (K % 7 == 5) = true := by simp [hk]
  have hmost : d.n ≤ room := by obtain ⟨lv, xl, xw, h⟩ := h; exact h.tab.most.1
  have HP := Lib.hid (h.new (opArr ⟨K, t, id, on⟩) 37)
  have HREL := Lib.hid hr
  have HWN := Lib.hid hw
  have h1 : (Try.prog.info? 30).map (·.size) = some (tkArr t).toList.length := by rw [Array.length_toList]; exact size30 _
  obtain ⟨j1, j2, j3⟩ := rel_join hr hw hmost (ts := d.ts) id on
  have j4 := rJoinD_len d.n d.ts W id on
  obtain ⟨OA, hOA⟩ : ∃ OA, OA = opArr ⟨K, t, id, on⟩ := ⟨_, rfl⟩
  rw [← hOA] at HP
  rw [← hOA]
  obtain ⟨TA, hTA⟩ : ∃ TA, TA = tkArr t := ⟨_, rfl⟩
  rw [← hTA] at h1
  have HOA := Lib.hid hOA
  have HTA := Lib.hid hTA
  clear h hr hw hOA hTA hk
  go_enter Try.func18, Try.ntmps18
  go_upto_region 1 with fail
  obtain ⟨A, hA⟩ : ∃ A, w.heap.size = A := ⟨_, rfl⟩
  obtain ⟨w1, hw1⟩ : ∃ w1, w.alloc (.cells OA 37) = w1 := ⟨_, rfl⟩
  rw [hA, hw1] at HP
  rw [hA, hw1]
  clear hA hw1
  obtain ⟨Kq, hKq⟩ : ∃ Kq, Kq = (A, Obj.cells OA 37 (0, 0)) :: Kp := ⟨_, rfl⟩
  rw [← hKq] at HP
  have HK1 := Lib.hid (show (A, Obj.cells OA 37 (0, 0)) ∈ Kq by rw [hKq]; exact List.mem_cons_self)
  have HK2 := Lib.hid (show ∀ p ∈ Kp, p ∈ Kq by rw [hKq]; exact fun p hp => List.mem_cons_of_mem _ hp)
  clear hKq
  have KS := Lib.hid (fun (w' : World) (hh : w'.heap[A]? = some (Obj.cells OA 37 (0, 0))) => show w'.cell? ⟨A, 30, none⟩ = some (.int .i64 id) ∧ w'.cell? ⟨A, 31, none⟩ = some (.int .i64 on) ∧ w'.rangeAt A 1 TA.toList from by
    have ho : OpAt w' A ⟨K, t, id, on⟩ := by unfold OpAt; rw [← HOA.out]; exact hh
    exact ⟨ho.c30, ho.c31, by rw [HTA.out]; exact ho.task⟩)
  have c0 : w1.cell? ⟨A, 0, none⟩ = some (.int .u64 K) := by
    have ho : OpAt w1 A ⟨K, t, id, on⟩ := by unfold OpAt; rw [← HOA.out]; exact HP.out.kept HK1.out
    exact ho.c0
  have HA := Lib.hid (fun (w' : World) (hh : PrE w0 w' base tb c bn bl rb rs vn vl room Kq d ⟨d.n, d.ts, W⟩) => PJoin hh id on)
  have HB := Lib.hid (fun (w' : World) (d' : Tb) (hh : PrE w0 w' base tb c bn bl rb rs vn vl room Kq d' ⟨d.n, d.ts, W⟩) => QJoin hh id on h100)
  simp only at HB
  rw [← j1] at HB
  have HFIN := Lib.hid (fun (w' : World) (hh : PrE w0 w' base tb c bn bl rb rs vn vl room Kq ⟨d.n, d.ts, (joinD d.n room d.ts d.R id on).2⟩ ⟨d.n, d.ts, (rJoinD d.n d.ts W id on).2⟩) => show ∃ d' W', PrE w0 w' base tb c bn bl rb rs vn vl room Kp d' ⟨d'.n, d'.ts, W'⟩ ∧ Rel W' d'.R ∧ (∀ p ∈ W', p.2 < d'.n) ∧ W'.length ≤ W.length + 1 from
    ⟨_, _, hh.less HK2.out, j2, j3, j4⟩)
  clear j1 j2 j3 j4
  generalize joinD d.n room d.ts d.R id on = q at *
  generalize rJoinD d.n d.ts W id on = p at *
  obtain ⟨q1, q2⟩ := q
  obtain ⟨p1, p2⟩ := p
  simp only at HA HB HFIN
  go_wp2_with fail
  refine wp_region_held_drew (S := fun w' => w'.cell? ⟨A, 30, none⟩ = some (.int .i64 id) ∧ w'.cell? ⟨A, 31, none⟩ = some (.int .i64 on) ∧ w'.rangeAt A 1 TA.toList) (by kernel_rfl) (KS.out _ (HP.out.kept HK1.out)) (fun hHeld => ?_)
  refine wpAnyH_take (i := 0) (v := ?va0) rfl (by kernel_rfl) (by kernel_rfl) (by kernel_rfl) (fun _ _ _ h => h) (Or.inl ⟨by rfl, ?hya0⟩) (by assumption) ?resta0
  case hya0 => (intro w hSw; (try dsimp only at hSw); go_simp) <;> with_reducible rfl
  simp only [Act.put, List.getElem_toArray, List.getElem_cons_succ, List.getElem_cons_zero, List.setIfInBounds_toArray, List.set_cons_succ, List.set_cons_zero]
  refine wpAnyH_take (i := 1) (v := ?va1) rfl (by kernel_rfl) (by kernel_rfl) (by kernel_rfl) (fun _ _ _ h => h) (Or.inl ⟨by rfl, ?hya1⟩) (by assumption) ?resta1
  case hya1 => (intro w hSw; (try dsimp only at hSw); go_simp) <;> with_reducible rfl
  simp only [Act.put, List.getElem_toArray, List.getElem_cons_succ, List.getElem_cons_zero, List.setIfInBounds_toArray, List.set_cons_succ, List.set_cons_zero]
  refine wpAnyH_take (i := 2) (v := ?va2) rfl (by kernel_rfl) (by kernel_rfl) (by kernel_rfl) (fun _ _ _ h => h) (Or.inl ⟨by rfl, ?hya2⟩) (by assumption) ?resta2
  case hya2 => (intro w hSw; (try dsimp only at hSw); go_simp) <;> with_reducible rfl
  simp only [Act.put, List.getElem_toArray, List.getElem_cons_succ, List.getElem_cons_zero, List.setIfInBounds_toArray, List.set_cons_succ, List.set_cons_zero]
  refine wpAnyH_take (i := 3) (v := ?va3) rfl (by kernel_rfl) (by kernel_rfl) (by kernel_rfl) (fun _ _ _ h => h) (Or.inl ⟨by rfl, ?hya3⟩) (by assumption) ?resta3
  case hya3 => (intro w hSw; (try dsimp only at hSw); go_simp) <;> with_reducible rfl
  simp only [Act.put, List.getElem_toArray, List.getElem_cons_succ, List.getElem_cons_zero, List.setIfInBounds_toArray, List.set_cons_succ, List.set_cons_zero]
  refine wpAnyH_take (i := 4) (v := ?va4) rfl (by kernel_rfl) (by kernel_rfl) (by kernel_rfl) (fun _ _ _ h => h) (Or.inl ⟨by rfl, ?hya4⟩) (by assumption) ?resta4
  case hya4 => (intro w hSw; (try dsimp only at hSw); go_simp) <;> with_reducible rfl
  simp only [Act.put, List.getElem_toArray, List.getElem_cons_succ, List.getElem_cons_zero, List.setIfInBounds_toArray, List.set_cons_succ, List.set_cons_zero]
  refine wpAnyH_take (i := 6) (v := ?va6) rfl (by kernel_rfl) (by kernel_rfl) (by kernel_rfl) (fun _ _ _ h => h) (Or.inl ⟨by rfl, ?hya6⟩) (by assumption) ?resta6
  case hya6 => (intro w hSw; (try dsimp only at hSw); go_simp) <;> with_reducible rfl
  simp only [Act.put, List.getElem_toArray, List.getElem_cons_succ, List.getElem_cons_zero, List.setIfInBounds_toArray, List.set_cons_succ, List.set_cons_zero]
  refine wpAnyH_take (i := 7) (v := ?va7) rfl (by kernel_rfl) (by kernel_rfl) (by kernel_rfl) (fun _ _ _ h => h) (Or.inl ⟨by rfl, ?hya7⟩) (by assumption) ?resta7
  case hya7 => (intro w hSw; (try dsimp only at hSw); go_simp) <;> with_reducible rfl
  simp only [Act.put, List.getElem_toArray, List.getElem_cons_succ, List.getElem_cons_zero, List.setIfInBounds_toArray, List.set_cons_succ, List.set_cons_zero]
  refine wpAnyH_take (i := 8) (v := ?va8) rfl (by kernel_rfl) (by kernel_rfl) (by kernel_rfl) (fun _ _ _ h => h) (Or.inl ⟨by rfl, ?hya8⟩) (by assumption) ?resta8
  case hya8 => (intro w hSw; (try dsimp only at hSw); go_simp) <;> with_reducible rfl
  simp only [Act.put, List.getElem_toArray, List.getElem_cons_succ, List.getElem_cons_zero, List.setIfInBounds_toArray, List.set_cons_succ, List.set_cons_zero]
  refine wpAnyH_take (i := 9) (v := ?va9) rfl (by kernel_rfl) (by kernel_rfl) (by kernel_rfl) (fun _ _ _ h => h) (Or.inl ⟨by rfl, ?hya9⟩) (by assumption) ?resta9
  case hya9 => (intro w hSw; (try dsimp only at hSw); go_simp) <;> with_reducible rfl
  simp only [Act.put, List.getElem_toArray, List.getElem_cons_succ, List.getElem_cons_zero, List.setIfInBounds_toArray, List.set_cons_succ, List.set_cons_zero]
  refine wpAnyH_take (i := 10) (v := ?va10) rfl (by kernel_rfl) (by kernel_rfl) (by kernel_rfl) (fun _ _ _ h => h) (Or.inl ⟨by rfl, ?hya10⟩) (by assumption) ?resta10
  case hya10 => (intro w hSw; (try dsimp only at hSw); go_simp) <;> with_reducible rfl
  simp only [Act.put, List.getElem_toArray, List.getElem_cons_succ, List.getElem_cons_zero, List.setIfInBounds_toArray, List.set_cons_succ, List.set_cons_zero]
  refine wpAnyH_ready (rs := [5]) (by kernel_rfl) (by simp) ?_
  refine AllReadyH.cons rfl (fun K hK => ?_) AllReadyH.nil
  go_simp
  refine (HA.out _ (HP.out.below (Below.refl _ _).drew)).mono ?_
  rintro e w2 ⟨rfl, h2⟩
  have HP2 := Lib.hid h2
  clear h2
  refine hK.out _ _ (KS.out _ (HP2.out.kept HK1.out)) (fun hHeld => ?_)
  clear hK K
  try simp only [Act.put, List.getElem_toArray, List.getElem_cons_succ, List.getElem_cons_zero, List.setIfInBounds_toArray, List.set_cons_succ, List.set_cons_zero]
  refine wpAnyH_ready (rs := [11]) (by kernel_rfl) (by simp) ?_
  refine AllReadyH.cons rfl (fun K hK => ?_) AllReadyH.nil
  go_simp
  refine (HB.out _ _ HP2.out).mono ?_
  rintro e w3 ⟨rfl, h3⟩
  have HP3 := Lib.hid h3
  clear h3
  refine hK.out _ _ (KS.out _ (HP3.out.kept HK1.out)) (fun hHeld => ?_)
  clear hK K
  try simp only [Act.put, List.getElem_toArray, List.getElem_cons_succ, List.getElem_cons_zero, List.setIfInBounds_toArray, List.set_cons_succ, List.set_cons_zero]
  refine wpAnyH_take (i := 12) (v := ?vz12) rfl (by kernel_rfl) (by kernel_rfl) (by kernel_rfl) (fun _ _ _ h => h) (Or.inl ⟨by rfl, ?hyz12⟩) (by assumption) ?restz12
  case hyz12 => (intro w hSw; (try dsimp only at hSw); go_simp) <;> with_reducible rfl
  simp only [Act.put, List.getElem_toArray, List.getElem_cons_succ, List.getElem_cons_zero, List.setIfInBounds_toArray, List.set_cons_succ, List.set_cons_zero]
  refine wpAnyH_take (i := 13) (v := ?vz13) rfl (by kernel_rfl) (by kernel_rfl) (by kernel_rfl) (fun _ _ _ h => h) (Or.inl ⟨by rfl, ?hyz13⟩) (by assumption) ?restz13
  case hyz13 => (intro w hSw; (try dsimp only at hSw); go_simp) <;> with_reducible rfl
  simp only [Act.put, List.getElem_toArray, List.getElem_cons_succ, List.getElem_cons_zero, List.setIfInBounds_toArray, List.set_cons_succ, List.set_cons_zero]
  refine wpAnyH_done (by kernel_rfl) ?_ _
  go_wp2_with fail
  go_ret
  exact ⟨by first | rfl | (simp; done), HFIN.out _ HP3.out⟩
end
end Go.Proofs.Ytedhhohnbekelaa
