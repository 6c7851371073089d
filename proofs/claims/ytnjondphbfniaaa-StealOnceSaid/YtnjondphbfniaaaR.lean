/- A call of the law StealPlays to both rows. No condition. -/
import Derived.Test.YtnjondphbfniaaaQ
namespace Go.Proofs.Ytnjondphbfniaaa
open Go.RowKit

def DoneTo (w : World) (b pb cap rb sb qb rn cs cq : Nat) (d : Dq) (K : Nat) (e : Ending) (w' : World) : Prop :=
  e = .returned (.bool true) ∧ Pair w' b pb cap rb sb qb rn cs cq d K ∧ Frm (Five b pb rb sb qb) w w'

theorem cells_new3 (w : World) (a b d : Value) (t : TypeId) : (w.alloc (.cells #[a, b, d] t)).cell? ⟨w.heap.size, 0, none⟩ = some a ∧ (w.alloc (.cells #[a, b, d] t)).cell? ⟨w.heap.size, 1, none⟩ = some b ∧ (w.alloc (.cells #[a, b, d] t)).cell? ⟨w.heap.size, 2, none⟩ = some d := by simp

section
variable {w : World} {b pb cap rb sb qb rn cs cq K : Nat} {d : Dq}

set_option maxRecDepth 100000 in
theorem do_push (h : Pair w b pb cap rb sb qb rn cs cq d K) (hK : K ≤ 10000) (kd who x : Int) (h0 : 0 ≤ kd) (hk : kd % 8 = 0) :
    Calls Try.prog 8 #[.pointer (some ⟨b, 0, none⟩), .pointer (some ⟨rb, 0, none⟩), .agg #[.int .u64 kd, .int .i64 who, .int .i64 x]] w
      fun r w' => DoneTo w b pb cap rb sb qb rn cs cq (nextD d kd who x) (K + 1) r w' := by
  have k0 : (kd % 8 == 0) = true := by simp [hk]
  have hok := h.ok
  have hap := h.apart
  have HOK := Lib.hid (hok.nextD kd who x)
  have hn := hok.n
  have hAp : ∀ k, Five b pb rb sb qb k → k ≠ w.heap.size := fun k hk => by
    obtain ⟨r, hr, -⟩ := h.rf
    have a1 := h.dq.top.lt
    have a2 := h.dq.parts.lt
    have a3 := hr.top.lt
    have a4 := hr.slots.lt
    have a5 := hr.parts.lt
    rcases hk with (e | e) | (e | e | e) <;> omega
  have HA := Lib.hid hap
  have H := Lib.hid h
  have HOK0 := Lib.hid hok
  clear h hok hap
  go_enter Try.func8, Try.ntmps8
  go_upto_region 1 with fail
  obtain ⟨D, hD⟩ : ∃ D, w.heap.size = D := ⟨_, rfl⟩
  obtain ⟨c0, c1, c2⟩ := cells_new3 w (.int .u64 kd) (.int .i64 who) (.int .i64 x) 29
  obtain ⟨W, hW⟩ : ∃ W, w.alloc (.cells #[.int .u64 kd, .int .i64 who, .int .i64 x] 29) = W := ⟨_, rfl⟩
  have HF0 := Lib.hid (show Frm (Five b pb rb sb qb) w W by rw [← hW]; exact (Frm.refl _ _).alloc _)
  have HW := Lib.hid (show Pair W b pb cap rb sb qb rn cs cq d K by rw [← hW]; exact H.out.alloc _)
  rw [hW, hD] at c0 c1 c2
  rw [hD] at hAp
  rw [hW, hD]
  have HD := Lib.hid hAp
  have hDl : D < W.heap.size := World.block_lt_of_cell? _ _ c1
  have KS := Lib.hid (fun (w' : World) (hF : Frm (Five b pb rb sb qb) W w') => show w'.cell? ⟨D, 1, none⟩ = some (.int .i64 who) ∧ w'.cell? ⟨D, 2, none⟩ = some (.int .i64 x) from
    ⟨(World.cell?_of_block (a := ⟨D, 1, none⟩) (hF.block D hDl (fun hk => HD.out D hk rfl))).trans c1, (World.cell?_of_block (a := ⟨D, 2, none⟩) (hF.block D hDl (fun hk => HD.out D hk rfl))).trans c2⟩)
  clear hW hD hAp H
  obtain ⟨r, hr, hl⟩ := HW.out.rf
  have P1 := Lib.hid (fun (w' : World) (hh : IsDq w' b pb cap d) => Push_any hh hn.2 x)
  have P2 := Lib.hid (fun (w' : World) (hh : IsRf w' rb sb qb rn cs cq r) => RBegin_own hh (by have := hl.n; omega) 1 x (.inl rfl))
  have HL := Lib.hid hl
  have HR := Lib.hid hr
  have EQ := Lib.hid (show nextD d kd who x = (d.begin 0 1 x).2 by unfold nextD; simp only [hk]; simp)
  have EL := Lib.hid (hl.begin 0 1 x)
  have HKx := Lib.hid hk
  clear hr hl hk
  generalize d.begin 0 1 x = q at *
  obtain ⟨q1, q2⟩ := q
  simp only at P1 EL EQ
  rw [EL.out.1] at P2
  go_wp2_with fail
  refine wp_region_held_drew (S := fun w' => w'.cell? ⟨D, 1, none⟩ = some (.int .i64 who) ∧ w'.cell? ⟨D, 2, none⟩ = some (.int .i64 x)) (by kernel_rfl) (KS.out _ ((Frm.refl _ W).drew)) (fun hHeld => ?_)
  refine wpAnyH_take (i := 0) (v := ?vp00) rfl (by kernel_rfl) (by kernel_rfl) (by kernel_rfl) (fun _ _ _ h => h) (Or.inl ⟨by rfl, ?hyp00⟩) (by assumption) ?restp00
  case hyp00 => (intro w hSw; (try dsimp only at hSw); go_simp) <;> with_reducible rfl
  simp only [Act.put, List.getElem_toArray, List.getElem_cons_succ, List.getElem_cons_zero, List.setIfInBounds_toArray, List.set_cons_succ, List.set_cons_zero]
  refine wpAnyH_take (i := 1) (v := ?vp01) rfl (by kernel_rfl) (by kernel_rfl) (by kernel_rfl) (fun _ _ _ h => h) (Or.inl ⟨by rfl, ?hyp01⟩) (by assumption) ?restp01
  case hyp01 => (intro w hSw; (try dsimp only at hSw); go_simp) <;> with_reducible rfl
  simp only [Act.put, List.getElem_toArray, List.getElem_cons_succ, List.getElem_cons_zero, List.setIfInBounds_toArray, List.set_cons_succ, List.set_cons_zero]
  refine wpAnyH_take (i := 2) (v := ?vp02) rfl (by kernel_rfl) (by kernel_rfl) (by kernel_rfl) (fun _ _ _ h => h) (Or.inl ⟨by rfl, ?hyp02⟩) (by assumption) ?restp02
  case hyp02 => (intro w hSw; (try dsimp only at hSw); go_simp) <;> with_reducible rfl
  simp only [Act.put, List.getElem_toArray, List.getElem_cons_succ, List.getElem_cons_zero, List.setIfInBounds_toArray, List.set_cons_succ, List.set_cons_zero]
  refine wpAnyH_take (i := 4) (v := ?vp04) rfl (by kernel_rfl) (by kernel_rfl) (by kernel_rfl) (fun _ _ _ h => h) (Or.inl ⟨by rfl, ?hyp04⟩) (by assumption) ?restp04
  case hyp04 => (intro w hSw; (try dsimp only at hSw); go_simp) <;> with_reducible rfl
  simp only [Act.put, List.getElem_toArray, List.getElem_cons_succ, List.getElem_cons_zero, List.setIfInBounds_toArray, List.set_cons_succ, List.set_cons_zero]
  refine wpAnyH_take (i := 5) (v := ?vp05) rfl (by kernel_rfl) (by kernel_rfl) (by kernel_rfl) (fun _ _ _ h => h) (Or.inl ⟨by rfl, ?hyp05⟩) (by assumption) ?restp05
  case hyp05 => (intro w hSw; (try dsimp only at hSw); go_simp) <;> with_reducible rfl
  simp only [Act.put, List.getElem_toArray, List.getElem_cons_succ, List.getElem_cons_zero, List.setIfInBounds_toArray, List.set_cons_succ, List.set_cons_zero]
  refine wpAnyH_take (i := 6) (v := ?vp06) rfl (by kernel_rfl) (by kernel_rfl) (by kernel_rfl) (fun _ _ _ h => h) (Or.inl ⟨by rfl, ?hyp06⟩) (by assumption) ?restp06
  case hyp06 => (intro w hSw; (try dsimp only at hSw); go_simp) <;> with_reducible rfl
  simp only [Act.put, List.getElem_toArray, List.getElem_cons_succ, List.getElem_cons_zero, List.setIfInBounds_toArray, List.set_cons_succ, List.set_cons_zero]
  refine wpAnyH_ready (rs := [3]) (by kernel_rfl) (by simp) ?_
  refine AllReadyH.cons rfl (fun K hK => ?_) AllReadyH.nil
  go_simp
  refine (P1.out _ HW.out.dq.drew).mono ?_
  rintro e w2 ⟨rfl, h2, hF2⟩
  have HF2 := Lib.hid (((Frm.refl (Both b pb) W).drew).trans hF2)
  have H2 := Lib.hid h2
  clear h2 hF2
  refine hK.out _ _ (KS.out _ HF2.out.l5) (fun hHeld => ?_)
  clear hK K
  try simp only [Act.put, List.getElem_toArray, List.getElem_cons_succ, List.getElem_cons_zero, List.setIfInBounds_toArray, List.set_cons_succ, List.set_cons_zero]
  refine wpAnyH_ready (rs := [7]) (by kernel_rfl) (by simp) ?_
  refine AllReadyH.cons rfl (fun K hK => ?_) AllReadyH.nil
  go_simp
  refine (P2.out _ (HR.out.past HA.out HF2.out)).mono ?_
  rintro e w3 ⟨rfl, h3, hF3⟩
  have HF3 := Lib.hid (HF2.out.l5.trans (hF3.r5 (b := b) (pb := pb)))
  have H3 := Lib.hid (H2.out.past HA.out hF3)
  have HX3 := Lib.hid h3
  clear h3 hF3
  refine hK.out _ _ (KS.out _ HF3.out) (fun hHeld => ?_)
  clear hK K
  try simp only [Act.put, List.getElem_toArray, List.getElem_cons_succ, List.getElem_cons_zero, List.setIfInBounds_toArray, List.set_cons_succ, List.set_cons_zero]
  refine wpAnyH_take (i := 8) (v := ?vp0z8) rfl (by kernel_rfl) (by kernel_rfl) (by kernel_rfl) (fun _ _ _ h => h) (Or.inl ⟨by rfl, ?hyp0z8⟩) (by assumption) ?restp0z8
  case hyp0z8 => (intro w hSw; (try dsimp only at hSw); go_simp) <;> with_reducible rfl
  simp only [Act.put, List.getElem_toArray, List.getElem_cons_succ, List.getElem_cons_zero, List.setIfInBounds_toArray, List.set_cons_succ, List.set_cons_zero]
  refine wpAnyH_take (i := 9) (v := ?vp0z9) rfl (by kernel_rfl) (by kernel_rfl) (by kernel_rfl) (fun _ _ _ h => h) (Or.inl ⟨by rfl, ?hyp0z9⟩) (by assumption) ?restp0z9
  case hyp0z9 => (intro w hSw; (try dsimp only at hSw); go_simp) <;> with_reducible rfl
  simp only [Act.put, List.getElem_toArray, List.getElem_cons_succ, List.getElem_cons_zero, List.setIfInBounds_toArray, List.set_cons_succ, List.set_cons_zero]
  refine wpAnyH_done (by kernel_rfl) ?_ _
  go_wp2_with fail
  go_ret
  exact ⟨rfl, ⟨by rw [EQ.out]; exact H3.out, ⟨_, HX3.out, by rw [EQ.out]; exact EL.out.2⟩, HOK.out, HA.out⟩, HF0.out.trans HF3.out⟩

set_option maxRecDepth 100000 in
theorem do_pop (h : Pair w b pb cap rb sb qb rn cs cq d K) (hK : K ≤ 10000) (kd who x : Int) (h0 : 0 ≤ kd) (hk : kd % 8 = 1) :
    Calls Try.prog 8 #[.pointer (some ⟨b, 0, none⟩), .pointer (some ⟨rb, 0, none⟩), .agg #[.int .u64 kd, .int .i64 who, .int .i64 x]] w
      fun r w' => DoneTo w b pb cap rb sb qb rn cs cq (nextD d kd who x) (K + 1) r w' := by
  have k0 : (kd % 8 == 0) = false := by simp [hk]
  have k1 : (kd % 8 == 1) = true := by simp [hk]
  have hok := h.ok
  have hap := h.apart
  have HOK := Lib.hid (hok.nextD kd who x)
  have hn := hok.n
  have hAp : ∀ k, Five b pb rb sb qb k → k ≠ w.heap.size := fun k hk => by
    obtain ⟨r, hr, -⟩ := h.rf
    have a1 := h.dq.top.lt
    have a2 := h.dq.parts.lt
    have a3 := hr.top.lt
    have a4 := hr.slots.lt
    have a5 := hr.parts.lt
    rcases hk with (e | e) | (e | e | e) <;> omega
  have HA := Lib.hid hap
  have H := Lib.hid h
  have HOK0 := Lib.hid hok
  clear h hok hap
  go_enter Try.func8, Try.ntmps8
  go_upto_region 1 with fail
  obtain ⟨D, hD⟩ : ∃ D, w.heap.size = D := ⟨_, rfl⟩
  obtain ⟨c0, c1, c2⟩ := cells_new3 w (.int .u64 kd) (.int .i64 who) (.int .i64 x) 29
  obtain ⟨W, hW⟩ : ∃ W, w.alloc (.cells #[.int .u64 kd, .int .i64 who, .int .i64 x] 29) = W := ⟨_, rfl⟩
  have HF0 := Lib.hid (show Frm (Five b pb rb sb qb) w W by rw [← hW]; exact (Frm.refl _ _).alloc _)
  have HW := Lib.hid (show Pair W b pb cap rb sb qb rn cs cq d K by rw [← hW]; exact H.out.alloc _)
  rw [hW, hD] at c0 c1 c2
  rw [hD] at hAp
  rw [hW, hD]
  have HD := Lib.hid hAp
  have hDl : D < W.heap.size := World.block_lt_of_cell? _ _ c1
  have KS := Lib.hid (fun (w' : World) (hF : Frm (Five b pb rb sb qb) W w') => show w'.cell? ⟨D, 1, none⟩ = some (.int .i64 who) ∧ w'.cell? ⟨D, 2, none⟩ = some (.int .i64 x) from
    ⟨(World.cell?_of_block (a := ⟨D, 1, none⟩) (hF.block D hDl (fun hk => HD.out D hk rfl))).trans c1, (World.cell?_of_block (a := ⟨D, 2, none⟩) (hF.block D hDl (fun hk => HD.out D hk rfl))).trans c2⟩)
  clear hW hD hAp H
  obtain ⟨r, hr, hl⟩ := HW.out.rf
  have P1 := Lib.hid (fun (w' : World) (hh : IsDq w' b pb cap d) => Pop_any hh hn.2)
  have P2 := Lib.hid (fun (w' : World) (hh : IsRf w' rb sb qb rn cs cq r) => RBegin_own hh (by have := hl.n; omega) 2 0 (.inr rfl))
  have HL := Lib.hid hl
  have HR := Lib.hid hr
  have EQ := Lib.hid (show nextD d kd who x = (d.begin 0 2 0).2 by unfold nextD; simp only [hk]; simp)
  have EL := Lib.hid (hl.begin 0 2 0)
  have HKx := Lib.hid hk
  clear hr hl hk
  generalize d.begin 0 2 0 = q at *
  obtain ⟨q1, q2⟩ := q
  simp only at P1 EL EQ
  rw [EL.out.1] at P2
  go_wp2_with fail
  refine (P1.out _ HW.out.dq).mono ?_
  rintro e w2 ⟨rfl, h2, hF2⟩
  have HF2 := Lib.hid hF2
  have H2 := Lib.hid h2
  clear h2 hF2
  go_wp2_with fail
  refine (P2.out _ (HR.out.past HA.out HF2.out)).mono ?_
  rintro e w3 ⟨rfl, h3, hF3⟩
  have HF3 := Lib.hid (HF2.out.l5.trans (hF3.r5 (b := b) (pb := pb)))
  have H3 := Lib.hid (H2.out.past HA.out hF3)
  have HX3 := Lib.hid h3
  clear h3 hF3
  go_wp2_with fail
  go_ret
  exact ⟨rfl, ⟨by rw [EQ.out]; exact H3.out, ⟨_, HX3.out, by rw [EQ.out]; exact EL.out.2⟩, HOK.out, HA.out⟩, HF0.out.trans HF3.out⟩

set_option maxRecDepth 100000 in
theorem do_theft (h : Pair w b pb cap rb sb qb rn cs cq d K) (hK : K ≤ 10000) (kd who x : Int) (h0 : 0 ≤ kd) (hk : kd % 8 = 2) :
    Calls Try.prog 8 #[.pointer (some ⟨b, 0, none⟩), .pointer (some ⟨rb, 0, none⟩), .agg #[.int .u64 kd, .int .i64 who, .int .i64 x]] w
      fun r w' => DoneTo w b pb cap rb sb qb rn cs cq (nextD d kd who x) (K + 1) r w' := by
  have k0 : (kd % 8 == 0) = false := by simp [hk]
  have k1 : (kd % 8 == 1) = false := by simp [hk]
  have k2 : (kd % 8 == 2) = true := by simp [hk]
  have hok := h.ok
  have hap := h.apart
  have HOK := Lib.hid (hok.nextD kd who x)
  have hn := hok.n
  have hAp : ∀ k, Five b pb rb sb qb k → k ≠ w.heap.size := fun k hk => by
    obtain ⟨r, hr, -⟩ := h.rf
    have a1 := h.dq.top.lt
    have a2 := h.dq.parts.lt
    have a3 := hr.top.lt
    have a4 := hr.slots.lt
    have a5 := hr.parts.lt
    rcases hk with (e | e) | (e | e | e) <;> omega
  have HA := Lib.hid hap
  have H := Lib.hid h
  have HOK0 := Lib.hid hok
  clear h hok hap
  go_enter Try.func8, Try.ntmps8
  go_upto_region 1 with fail
  obtain ⟨D, hD⟩ : ∃ D, w.heap.size = D := ⟨_, rfl⟩
  obtain ⟨c0, c1, c2⟩ := cells_new3 w (.int .u64 kd) (.int .i64 who) (.int .i64 x) 29
  obtain ⟨W, hW⟩ : ∃ W, w.alloc (.cells #[.int .u64 kd, .int .i64 who, .int .i64 x] 29) = W := ⟨_, rfl⟩
  have HF0 := Lib.hid (show Frm (Five b pb rb sb qb) w W by rw [← hW]; exact (Frm.refl _ _).alloc _)
  have HW := Lib.hid (show Pair W b pb cap rb sb qb rn cs cq d K by rw [← hW]; exact H.out.alloc _)
  rw [hW, hD] at c0 c1 c2
  rw [hD] at hAp
  rw [hW, hD]
  have HD := Lib.hid hAp
  have hDl : D < W.heap.size := World.block_lt_of_cell? _ _ c1
  have KS := Lib.hid (fun (w' : World) (hF : Frm (Five b pb rb sb qb) W w') => show w'.cell? ⟨D, 1, none⟩ = some (.int .i64 who) ∧ w'.cell? ⟨D, 2, none⟩ = some (.int .i64 x) from
    ⟨(World.cell?_of_block (a := ⟨D, 1, none⟩) (hF.block D hDl (fun hk => HD.out D hk rfl))).trans c1, (World.cell?_of_block (a := ⟨D, 2, none⟩) (hF.block D hDl (fun hk => HD.out D hk rfl))).trans c2⟩)
  clear hW hD hAp H
  obtain ⟨r, hr, hl⟩ := HW.out.rf
  have P1 := Lib.hid (fun (w' : World) (hh : IsDq w' b pb cap d) => Steal_any hh hn.2 who)
  have P2 := Lib.hid (fun (w' : World) (hh : IsRf w' rb sb qb rn cs cq r) => RBegin_theft hh (by have := hl.n; omega) who)
  have HL := Lib.hid hl
  have HR := Lib.hid hr
  have EQ := Lib.hid (show nextD d kd who x = (d.theft who).2 by unfold nextD; simp only [hk]; simp)
  have EL := Lib.hid (hl.theft who)
  have HKx := Lib.hid hk
  clear hr hl hk
  generalize d.theft who = q at *
  obtain ⟨q1, q2⟩ := q
  simp only at P1 EL EQ
  rw [EL.out.1] at P2
  go_wp2_with fail
  refine wp_region_held_drew (S := fun w' => w'.cell? ⟨D, 1, none⟩ = some (.int .i64 who) ∧ w'.cell? ⟨D, 2, none⟩ = some (.int .i64 x)) (by kernel_rfl) (KS.out _ ((Frm.refl _ W).drew)) (fun hHeld => ?_)
  refine wpAnyH_take (i := 0) (v := ?vp20) rfl (by kernel_rfl) (by kernel_rfl) (by kernel_rfl) (fun _ _ _ h => h) (Or.inl ⟨by rfl, ?hyp20⟩) (by assumption) ?restp20
  case hyp20 => (intro w hSw; (try dsimp only at hSw); go_simp) <;> with_reducible rfl
  simp only [Act.put, List.getElem_toArray, List.getElem_cons_succ, List.getElem_cons_zero, List.setIfInBounds_toArray, List.set_cons_succ, List.set_cons_zero]
  refine wpAnyH_take (i := 1) (v := ?vp21) rfl (by kernel_rfl) (by kernel_rfl) (by kernel_rfl) (fun _ _ _ h => h) (Or.inl ⟨by rfl, ?hyp21⟩) (by assumption) ?restp21
  case hyp21 => (intro w hSw; (try dsimp only at hSw); go_simp) <;> with_reducible rfl
  simp only [Act.put, List.getElem_toArray, List.getElem_cons_succ, List.getElem_cons_zero, List.setIfInBounds_toArray, List.set_cons_succ, List.set_cons_zero]
  refine wpAnyH_take (i := 2) (v := ?vp22) rfl (by kernel_rfl) (by kernel_rfl) (by kernel_rfl) (fun _ _ _ h => h) (Or.inl ⟨by rfl, ?hyp22⟩) (by assumption) ?restp22
  case hyp22 => (intro w hSw; (try dsimp only at hSw); go_simp) <;> with_reducible rfl
  simp only [Act.put, List.getElem_toArray, List.getElem_cons_succ, List.getElem_cons_zero, List.setIfInBounds_toArray, List.set_cons_succ, List.set_cons_zero]
  refine wpAnyH_take (i := 4) (v := ?vp24) rfl (by kernel_rfl) (by kernel_rfl) (by kernel_rfl) (fun _ _ _ h => h) (Or.inl ⟨by rfl, ?hyp24⟩) (by assumption) ?restp24
  case hyp24 => (intro w hSw; (try dsimp only at hSw); go_simp) <;> with_reducible rfl
  simp only [Act.put, List.getElem_toArray, List.getElem_cons_succ, List.getElem_cons_zero, List.setIfInBounds_toArray, List.set_cons_succ, List.set_cons_zero]
  refine wpAnyH_take (i := 5) (v := ?vp25) rfl (by kernel_rfl) (by kernel_rfl) (by kernel_rfl) (fun _ _ _ h => h) (Or.inl ⟨by rfl, ?hyp25⟩) (by assumption) ?restp25
  case hyp25 => (intro w hSw; (try dsimp only at hSw); go_simp) <;> with_reducible rfl
  simp only [Act.put, List.getElem_toArray, List.getElem_cons_succ, List.getElem_cons_zero, List.setIfInBounds_toArray, List.set_cons_succ, List.set_cons_zero]
  refine wpAnyH_take (i := 6) (v := ?vp26) rfl (by kernel_rfl) (by kernel_rfl) (by kernel_rfl) (fun _ _ _ h => h) (Or.inl ⟨by rfl, ?hyp26⟩) (by assumption) ?restp26
  case hyp26 => (intro w hSw; (try dsimp only at hSw); go_simp) <;> with_reducible rfl
  simp only [Act.put, List.getElem_toArray, List.getElem_cons_succ, List.getElem_cons_zero, List.setIfInBounds_toArray, List.set_cons_succ, List.set_cons_zero]
  refine wpAnyH_ready (rs := [3]) (by kernel_rfl) (by simp) ?_
  refine AllReadyH.cons rfl (fun K hK => ?_) AllReadyH.nil
  go_simp
  refine (P1.out _ HW.out.dq.drew).mono ?_
  rintro e w2 ⟨rfl, h2, hF2⟩
  have HF2 := Lib.hid (((Frm.refl (Both b pb) W).drew).trans hF2)
  have H2 := Lib.hid h2
  clear h2 hF2
  refine hK.out _ _ (KS.out _ HF2.out.l5) (fun hHeld => ?_)
  clear hK K
  try simp only [Act.put, List.getElem_toArray, List.getElem_cons_succ, List.getElem_cons_zero, List.setIfInBounds_toArray, List.set_cons_succ, List.set_cons_zero]
  refine wpAnyH_ready (rs := [7]) (by kernel_rfl) (by simp) ?_
  refine AllReadyH.cons rfl (fun K hK => ?_) AllReadyH.nil
  go_simp
  refine (P2.out _ (HR.out.past HA.out HF2.out)).mono ?_
  rintro e w3 ⟨rfl, h3, hF3⟩
  have HF3 := Lib.hid (HF2.out.l5.trans (hF3.r5 (b := b) (pb := pb)))
  have H3 := Lib.hid (H2.out.past HA.out hF3)
  have HX3 := Lib.hid h3
  clear h3 hF3
  refine hK.out _ _ (KS.out _ HF3.out) (fun hHeld => ?_)
  clear hK K
  try simp only [Act.put, List.getElem_toArray, List.getElem_cons_succ, List.getElem_cons_zero, List.setIfInBounds_toArray, List.set_cons_succ, List.set_cons_zero]
  refine wpAnyH_take (i := 8) (v := ?vp2z8) rfl (by kernel_rfl) (by kernel_rfl) (by kernel_rfl) (fun _ _ _ h => h) (Or.inl ⟨by rfl, ?hyp2z8⟩) (by assumption) ?restp2z8
  case hyp2z8 => (intro w hSw; (try dsimp only at hSw); go_simp) <;> with_reducible rfl
  simp only [Act.put, List.getElem_toArray, List.getElem_cons_succ, List.getElem_cons_zero, List.setIfInBounds_toArray, List.set_cons_succ, List.set_cons_zero]
  refine wpAnyH_take (i := 9) (v := ?vp2z9) rfl (by kernel_rfl) (by kernel_rfl) (by kernel_rfl) (fun _ _ _ h => h) (Or.inl ⟨by rfl, ?hyp2z9⟩) (by assumption) ?restp2z9
  case hyp2z9 => (intro w hSw; (try dsimp only at hSw); go_simp) <;> with_reducible rfl
  simp only [Act.put, List.getElem_toArray, List.getElem_cons_succ, List.getElem_cons_zero, List.setIfInBounds_toArray, List.set_cons_succ, List.set_cons_zero]
  refine wpAnyH_done (by kernel_rfl) ?_ _
  go_wp2_with fail
  go_ret
  exact ⟨rfl, ⟨by rw [EQ.out]; exact H3.out, ⟨_, HX3.out, by rw [EQ.out]; exact EL.out.2⟩, HOK.out, HA.out⟩, HF0.out.trans HF3.out⟩

set_option maxRecDepth 100000 in
theorem do_step (h : Pair w b pb cap rb sb qb rn cs cq d K) (hK : K ≤ 10000) (kd who x : Int) (h0 : 0 ≤ kd) (hk : kd % 8 ≠ 0 ∧ kd % 8 ≠ 1 ∧ kd % 8 ≠ 2) :
    Calls Try.prog 8 #[.pointer (some ⟨b, 0, none⟩), .pointer (some ⟨rb, 0, none⟩), .agg #[.int .u64 kd, .int .i64 who, .int .i64 x]] w
      fun r w' => DoneTo w b pb cap rb sb qb rn cs cq (nextD d kd who x) (K + 1) r w' := by
  have k0 : (kd % 8 == 0) = false := by simp [hk]
  have k1 : (kd % 8 == 1) = false := by simp [hk]
  have k2 : (kd % 8 == 2) = false := by simp [hk]
  have hok := h.ok
  have hap := h.apart
  have HOK := Lib.hid (hok.nextD kd who x)
  have hn := hok.n
  have hAp : ∀ k, Five b pb rb sb qb k → k ≠ w.heap.size := fun k hk => by
    obtain ⟨r, hr, -⟩ := h.rf
    have a1 := h.dq.top.lt
    have a2 := h.dq.parts.lt
    have a3 := hr.top.lt
    have a4 := hr.slots.lt
    have a5 := hr.parts.lt
    rcases hk with (e | e) | (e | e | e) <;> omega
  have HA := Lib.hid hap
  have H := Lib.hid h
  have HOK0 := Lib.hid hok
  clear h hok hap
  go_enter Try.func8, Try.ntmps8
  go_upto_region 1 with fail
  obtain ⟨D, hD⟩ : ∃ D, w.heap.size = D := ⟨_, rfl⟩
  obtain ⟨c0, c1, c2⟩ := cells_new3 w (.int .u64 kd) (.int .i64 who) (.int .i64 x) 29
  obtain ⟨W, hW⟩ : ∃ W, w.alloc (.cells #[.int .u64 kd, .int .i64 who, .int .i64 x] 29) = W := ⟨_, rfl⟩
  have HF0 := Lib.hid (show Frm (Five b pb rb sb qb) w W by rw [← hW]; exact (Frm.refl _ _).alloc _)
  have HW := Lib.hid (show Pair W b pb cap rb sb qb rn cs cq d K by rw [← hW]; exact H.out.alloc _)
  rw [hW, hD] at c0 c1 c2
  rw [hD] at hAp
  rw [hW, hD]
  have HD := Lib.hid hAp
  have hDl : D < W.heap.size := World.block_lt_of_cell? _ _ c1
  have KS := Lib.hid (fun (w' : World) (hF : Frm (Five b pb rb sb qb) W w') => show w'.cell? ⟨D, 1, none⟩ = some (.int .i64 who) ∧ w'.cell? ⟨D, 2, none⟩ = some (.int .i64 x) from
    ⟨(World.cell?_of_block (a := ⟨D, 1, none⟩) (hF.block D hDl (fun hk => HD.out D hk rfl))).trans c1, (World.cell?_of_block (a := ⟨D, 2, none⟩) (hF.block D hDl (fun hk => HD.out D hk rfl))).trans c2⟩)
  clear hW hD hAp H
  obtain ⟨r, hr, hl⟩ := HW.out.rf
  have P1 := Lib.hid (fun (w' : World) (hh : IsDq w' b pb cap d) => Step_any hh HOK0.out (by omega) who)
  have P2 := Lib.hid (fun (w' : World) (hh : IsRf w' rb sb qb rn cs cq r) => RStep_any hh hl HOK0.out (by omega) who)
  have HR := Lib.hid hr
  have EQ := Lib.hid (show nextD d kd who x = (d.step who).2.2.2 by unfold nextD; rw [if_neg hk.1, if_neg hk.2.1, if_neg hk.2.2])
  have HKx := Lib.hid hk
  clear hr hl hk
  generalize d.step who = q at *
  obtain ⟨q1, q2, q3, q4⟩ := q
  simp only at P1 EQ
  unfold stolenV at P1
  go_wp2_with fail
  refine (P1.out _ HW.out.dq).mono ?_
  rintro e w2 ⟨rfl, h2, hF2⟩
  have HF2 := Lib.hid hF2
  have H2 := Lib.hid h2
  obtain ⟨e1, e2⟩ := KS.out _ HF2.out.l5
  have hDl2 : D < w2.heap.size := World.block_lt_of_cell? _ _ e1
  clear h2 hF2 c0 c1 c2
  go_upto_region 9 with fail
  obtain ⟨A, hA⟩ : ∃ A, w2.heap.size = A := ⟨_, rfl⟩
  obtain ⟨W3, hW3⟩ : ∃ W3, w2.alloc (.cells #[.bool (q1 != 0), .int .i64 q1, .int .i64 q2] 44) = W3 := ⟨_, rfl⟩
  obtain ⟨s0, s1, s2⟩ := cells_new3 w2 (.bool (q1 != 0)) (.int .i64 q1) (.int .i64 q2) 44
  rw [hW3, hA] at s0 s1 s2
  have HF3 := Lib.hid (show Frm (Both b pb) W W3 by rw [← hW3]; exact HF2.out.alloc _)
  have H3 := Lib.hid (show IsDq W3 b pb cap q4 by rw [← hW3]; exact H2.out.alloc _)
  have e1' : W3.cell? ⟨D, 1, none⟩ = some (.int .i64 who) := by rw [← hW3]; exact (World.cell?_alloc_lt _ _ _ hDl2).trans e1
  have HR3 := Lib.hid (HR.out.past HA.out HF3.out)
  have hAl : A < W3.heap.size := World.block_lt_of_cell? _ _ s0
  have hA5 : ∀ k, Rfb rb sb qb k → k ≠ A := fun k hk => by
    have a3 := HR.out.top.lt
    have a4 := HR.out.slots.lt
    have a5 := HR.out.parts.lt
    have := HF2.out.size
    rcases hk with e | e | e <;> omega
  have HA5 := Lib.hid hA5
  have SS := Lib.hid (fun (w' : World) (hF : Frm (Rfb rb sb qb) W3 w') => show w'.cell? ⟨A, 0, none⟩ = some (.bool (q1 != 0)) ∧ w'.cell? ⟨A, 1, none⟩ = some (.int .i64 q1) ∧ w'.cell? ⟨A, 2, none⟩ = some (.int .i64 q2) from
    ⟨(World.cell?_of_block (a := ⟨A, 0, none⟩) (hF.block A hAl (fun hk => HA5.out A hk rfl))).trans s0, (World.cell?_of_block (a := ⟨A, 1, none⟩) (hF.block A hAl (fun hk => HA5.out A hk rfl))).trans s1, (World.cell?_of_block (a := ⟨A, 2, none⟩) (hF.block A hAl (fun hk => HA5.out A hk rfl))).trans s2⟩)
  try rw [hW3]
  try rw [hA]
  clear hW3 hA e1 e2 hA5
  go_wp2_with fail
  refine (P2.out _ HR3.out).mono ?_
  rintro e w4 ⟨rfl, h4, hF4⟩
  simp only at h4
  have HX4 := Lib.hid h4
  have HF4 := Lib.hid hF4
  obtain ⟨t0, t1, t2⟩ := SS.out _ hF4
  clear h4 hF4 s0 s1 s2 e1'
  go_wp2_with fail
  go_ret
  refine ⟨rfl, ⟨by rw [EQ.out]; exact H3.out.past HA.out HF4.out, by rw [EQ.out]; exact HX4.out, HOK.out, HA.out⟩, HF0.out.trans (HF3.out.l5.trans HF4.out.r5)⟩

theorem do_any (h : Pair w b pb cap rb sb qb rn cs cq d K) (hK : K ≤ 10000) (kd who x : Int) (h0 : 0 ≤ kd) :
    Calls Try.prog 8 #[.pointer (some ⟨b, 0, none⟩), .pointer (some ⟨rb, 0, none⟩), .agg #[.int .u64 kd, .int .i64 who, .int .i64 x]] w
      fun r w' => DoneTo w b pb cap rb sb qb rn cs cq (nextD d kd who x) (K + 1) r w' := by
  by_cases k0 : kd % 8 = 0
  · exact do_push h hK kd who x h0 k0
  by_cases k1 : kd % 8 = 1
  · exact do_pop h hK kd who x h0 k1
  by_cases k2 : kd % 8 = 2
  · exact do_theft h hK kd who x h0 k2
  · exact do_step h hK kd who x h0 ⟨k0, k1, k2⟩
end
end Go.Proofs.Ytnjondphbfniaaa
