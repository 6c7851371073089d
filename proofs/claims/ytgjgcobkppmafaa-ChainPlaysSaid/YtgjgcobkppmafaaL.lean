/- The program's rows and the document's, told alike: a call of the law. No condition. -/
import Derived.Test.YtgjgcobkppmafaaK
namespace Go.Proofs.Ytgjgcobkppmafaa
open Go.RowKit

/-- The two things' blocks are apart. -/
structure Sp (c bn bl rx blr n1 N M : Nat) : Prop where
  c : c < n1 ∧ c ≠ rx ∧ c ≠ blr
  n : 0 < N → bn < n1 ∧ bn ≠ rx ∧ bn ≠ blr
  l : 0 < M → bl < n1 ∧ bl ≠ rx ∧ bl ≠ blr

/-- Both have the same rows. -/
def Both (w : World) (c bn bl : Nat) (vn vl : Value) (rx blr cap n1 N M : Nat) : Prop := ∃ R V, Has w c bn bl vn vl N M R ∧ IsRx w rx blr cap n1 V N M R

def Alz (N M bn bl blr : Nat) : Nat → Prop := fun k => Twz N M bn bl k ∨ k = blr

section
variable {w w' : World} {c bn bl N M : Nat} {vn vl : Value} {R R' : Nat → List Nat} {rx blr cap n1 : Nat} {V : Nat → Value}

theorem Has.of_heapz (h : Has w c bn bl vn vl N M R) (h1 : w'.heap[c]? = w.heap[c]?) (h2 : 0 < N → w'.heap[bn]? = w.heap[bn]?) (h3 : 0 < M → w'.heap[bl]? = w.heap[bl]?) : Has w' c bn bl vn vl N M R := by
  obtain ⟨s, a, b, e1, e2⟩ := h
  exact ⟨s, ⟨a.top.of_heap h1, a.sn, a.sl, fun hN => (a.nodes hN).of_heap (h2 (by omega)), fun hM => (a.rows hM).of_heap (h3 (by omega)), a.apart, a.most⟩, b, e1, e2⟩

theorem Has.ltz (h : Has w c bn bl vn vl N M R) : c < w.heap.size ∧ (0 < N → bn < w.heap.size) ∧ (0 < M → bl < w.heap.size) := by
  obtain ⟨s, a, b, rfl, rfl⟩ := h
  exact ⟨a.top.lt, fun h => (a.nodes h).lt, fun h => (a.rows h).lt⟩

theorem IsRx.past (h : IsRx w rx blr cap n1 V N M R) (sp : Sp c bn bl rx blr n1 N M) (hF : Frm (Twz N M bn bl) w w') : IsRx w' rx blr cap n1 V N M R := by
  refine h.of_frm hF ?_ ?_ ?_
  · rintro (⟨a, b⟩ | ⟨a, b⟩)
    · have := sp.n a; omega
    · have := sp.l a; omega
  · rintro (⟨a, b⟩ | ⟨a, b⟩)
    · have := sp.n a; omega
    · have := sp.l a; omega
  · rintro k hk _ (⟨a, b⟩ | ⟨a, b⟩)
    · have := sp.n a; omega
    · have := sp.l a; omega

theorem Has.past (h : Has w c bn bl vn vl N M R) (sp : Sp c bn bl rx blr n1 N M) (hF : Frm (fun k => k = blr) w w') : Has w' c bn bl vn vl N M R := by
  obtain ⟨h1, h2, h3⟩ := h.ltz
  exact h.of_heapz (hF.block c h1 sp.c.2.2) (fun hN => hF.block bn (h2 hN) (sp.n hN).2.2) (fun hM => hF.block bl (h3 hM) (sp.l hM).2.2)

theorem Frm.alz1 (h : Frm (Twz N M bn bl) w w') : Frm (Alz N M bn bl blr) w w' := h.mono fun _ _ hk => .inl hk
theorem Frm.alz2 (h : Frm (fun k => k = blr) w w') : Frm (Alz N M bn bl blr) w w' := h.mono fun _ _ hk => .inr hk

theorem cell_new3 (w : World) (a b d : Value) (t : TypeId) : (w.alloc (.cells #[a, b, d] t)).cell? ⟨w.heap.size, 1, none⟩ = some b ∧ (w.alloc (.cells #[a, b, d] t)).cell? ⟨w.heap.size, 2, none⟩ = some d := by simp

set_option maxRecDepth 100000 in
theorem do_push (h : Has w c bn bl vn vl N M R) (hx : IsRx w rx blr cap n1 V N M R) (sp : Sp c bn bl rx blr n1 N M) (hN : N ≤ 4000) (kd li nd : Int) (hk : 0 ≤ kd) (h3 : kd % 5 ≠ 3) (h4 : kd % 5 ≠ 4) :
    Calls Try.prog 16 #[.pointer (some ⟨c, 0, none⟩), .pointer (some ⟨rx, 0, none⟩), .agg #[.int .u64 kd, .int .i64 li, .int .i64 nd]] w
      fun r w' => r = .returned (.bool true) ∧ Both w' c bn bl vn vl rx blr cap n1 N M ∧ Frm (Alz N M bn bl blr) w w' := by
  have h3' : (kd % 5 == 3) = false := by simpa using h3
  have h4' : (kd % 5 == 4) = false := by simpa using h4
  have HK3 := Lib.hid h3
  have HK4 := Lib.hid h4
  obtain ⟨q1, q2, q3⟩ := h.ltz
  have q4 := hx.arr.lt
  have H := Lib.hid h
  have HX := Lib.hid hx
  have HQ := Lib.hid (And.intro q1 (And.intro q2 (And.intro q3 q4)))
  clear h hx h3 h4 q1 q2 q3 q4
  go_enter Try.func16, Try.ntmps16
  go_wp2_with fail
  obtain ⟨D, hD⟩ : ∃ D, w.heap.size = D := ⟨_, rfl⟩
  obtain ⟨c1, c2⟩ := cell_new3 w (.int .u64 kd) (.int .i64 li) (.int .i64 nd) 45
  obtain ⟨W, hW⟩ : ∃ W, w.alloc (.cells #[.int .u64 kd, .int .i64 li, .int .i64 nd] 45) = W := ⟨_, rfl⟩
  have HF0 := Lib.hid (show Frm (fun _ => False) w W by rw [← hW]; exact (Frm.refl _ _).alloc _)
  rw [hW, hD] at c1 c2
  rw [hW, hD]
  have HXW := Lib.hid (HX.out.of_frm HF0.out (fun h => h) (fun h => h) (fun _ _ _ h => h))
  have HHW := Lib.hid (H.out.of_heapz (w' := W) (HF0.out.block c HQ.out.1 (fun h => h)) (fun hN => HF0.out.block bn (HQ.out.2.1 hN) (fun h => h)) (fun hM => HF0.out.block bl (HQ.out.2.2.1 hM) (fun h => h)))
  have hDn : ∀ k, Alz N M bn bl blr k → k ≠ D := fun k hk => by
    have := HQ.out
    rcases hk with (⟨a, b⟩ | ⟨a, b⟩) | b
    · have := this.2.1 a; omega
    · have := this.2.2.1 a; omega
    · omega
  have hDl : D < W.heap.size := World.block_lt_of_cell? _ _ c1
  have HD := Lib.hid hDn
  have P1 := Lib.hid (fun (w' : World) (hh : Has w' c bn bl vn vl N M R) => hh.pushz li nd)
  have P2 := Lib.hid (fun (w' : World) (hh : IsRx w' rx blr cap n1 V N M R) => RX.push hh H.out.rf hN li nd)
  obtain ⟨q, R', hq⟩ : ∃ q R', pushR N M R li nd = (q, R') := ⟨_, _, rfl⟩
  rw [hq] at P1 P2
  have KS := Lib.hid (fun (w' : World) (hF : Frm (Alz N M bn bl blr) W w') => show w'.cell? ⟨D, 1, none⟩ = some (.int .i64 li) ∧ w'.cell? ⟨D, 2, none⟩ = some (.int .i64 nd) from
    ⟨(World.cell?_of_block (a := ⟨D, 1, none⟩) (hF.block D hDl (fun hk => HD.out D hk rfl))).trans c1, (World.cell?_of_block (a := ⟨D, 2, none⟩) (hF.block D hDl (fun hk => HD.out D hk rfl))).trans c2⟩)
  clear hW hD hDn hq
  refine wp_region_held_drew (S := fun w' => w'.cell? ⟨D, 1, none⟩ = some (.int .i64 li) ∧ w'.cell? ⟨D, 2, none⟩ = some (.int .i64 nd)) (by kernel_rfl) (KS.out _ ((Frm.refl _ W).drew)) (fun hHeld => ?_)
  refine wpAnyH_take (i := 0) (v := ?va0) rfl (by kernel_rfl) (by kernel_rfl) (by kernel_rfl) (fun _ _ _ h => h) (Or.inl ⟨by rfl, ?hya0⟩) (by assumption) ?resta0
  case hya0 => (intro w hSw; (try dsimp only at hSw); go_simp) <;> with_reducible rfl
  simp only [Act.put, List.getElem_toArray, List.getElem_cons_succ, List.getElem_cons_zero, List.setIfInBounds_toArray, List.set_cons_succ, List.set_cons_zero]
  refine wpAnyH_take (i := 1) (v := ?va1) rfl (by kernel_rfl) (by kernel_rfl) (by kernel_rfl) (fun _ _ _ h => h) (Or.inl ⟨by rfl, ?hya1⟩) (by assumption) ?resta1
  case hya1 => (intro w hSw; (try dsimp only at hSw); go_simp) <;> with_reducible rfl
  simp only [Act.put, List.getElem_toArray, List.getElem_cons_succ, List.getElem_cons_zero, List.setIfInBounds_toArray, List.set_cons_succ, List.set_cons_zero]
  refine wpAnyH_take (i := 2) (v := ?va2) rfl (by kernel_rfl) (by kernel_rfl) (by kernel_rfl) (fun _ _ _ h => h) (Or.inl ⟨by rfl, ?hya2⟩) (by assumption) ?resta2
  case hya2 => (intro w hSw; (try dsimp only at hSw); go_simp) <;> with_reducible rfl
  simp only [Act.put, List.getElem_toArray, List.getElem_cons_succ, List.getElem_cons_zero, List.setIfInBounds_toArray, List.set_cons_succ, List.set_cons_zero]
  refine wpAnyH_take (i := 3) (v := ?va3) rfl (by kernel_rfl) (by kernel_rfl) (by kernel_rfl) (fun _ _ _ h => h) (Or.inl ⟨by rfl, ?hya3⟩) (by assumption) ?resta3
  case hya3 => (intro w hSw; (try dsimp only at hSw); go_simp) <;> with_reducible rfl
  simp only [Act.put, List.getElem_toArray, List.getElem_cons_succ, List.getElem_cons_zero, List.setIfInBounds_toArray, List.set_cons_succ, List.set_cons_zero]
  refine wpAnyH_take (i := 4) (v := ?va4) rfl (by kernel_rfl) (by kernel_rfl) (by kernel_rfl) (fun _ _ _ h => h) (Or.inl ⟨by rfl, ?hya4⟩) (by assumption) ?resta4
  case hya4 => (intro w hSw; (try dsimp only at hSw); go_simp) <;> with_reducible rfl
  simp only [Act.put, List.getElem_toArray, List.getElem_cons_succ, List.getElem_cons_zero, List.setIfInBounds_toArray, List.set_cons_succ, List.set_cons_zero]
  refine wpAnyH_take (i := 6) (v := ?va6) rfl (by kernel_rfl) (by kernel_rfl) (by kernel_rfl) (fun _ _ _ h => h) (Or.inl ⟨by rfl, ?hya6⟩) (by assumption) ?resta6
  case hya6 => (intro w hSw; (try dsimp only at hSw); go_simp) <;> with_reducible rfl
  simp only [Act.put, List.getElem_toArray, List.getElem_cons_succ, List.getElem_cons_zero, List.setIfInBounds_toArray, List.set_cons_succ, List.set_cons_zero]
  refine wpAnyH_take (i := 7) (v := ?va7) rfl (by kernel_rfl) (by kernel_rfl) (by kernel_rfl) (fun _ _ _ h => h) (Or.inl ⟨by rfl, ?hya7⟩) (by assumption) ?resta7
  case hya7 => (intro w hSw; (try dsimp only at hSw); go_simp) <;> with_reducible rfl
  simp only [Act.put, List.getElem_toArray, List.getElem_cons_succ, List.getElem_cons_zero, List.setIfInBounds_toArray, List.set_cons_succ, List.set_cons_zero]
  refine wpAnyH_take (i := 8) (v := ?va8) rfl (by kernel_rfl) (by kernel_rfl) (by kernel_rfl) (fun _ _ _ h => h) (Or.inl ⟨by rfl, ?hya8⟩) (by assumption) ?resta8
  case hya8 => (intro w hSw; (try dsimp only at hSw); go_simp) <;> with_reducible rfl
  simp only [Act.put, List.getElem_toArray, List.getElem_cons_succ, List.getElem_cons_zero, List.setIfInBounds_toArray, List.set_cons_succ, List.set_cons_zero]
  refine wpAnyH_take (i := 9) (v := ?va9) rfl (by kernel_rfl) (by kernel_rfl) (by kernel_rfl) (fun _ _ _ h => h) (Or.inl ⟨by rfl, ?hya9⟩) (by assumption) ?resta9
  case hya9 => (intro w hSw; (try dsimp only at hSw); go_simp) <;> with_reducible rfl
  simp only [Act.put, List.getElem_toArray, List.getElem_cons_succ, List.getElem_cons_zero, List.setIfInBounds_toArray, List.set_cons_succ, List.set_cons_zero]
  refine wpAnyH_take (i := 10) (v := ?va10) rfl (by kernel_rfl) (by kernel_rfl) (by kernel_rfl) (fun _ _ _ h => h) (Or.inl ⟨by rfl, ?hya10⟩) (by assumption) ?resta10
  case hya10 => (intro w hSw; (try dsimp only at hSw); go_simp) <;> with_reducible rfl
  simp only [Act.put, List.getElem_toArray, List.getElem_cons_succ, List.getElem_cons_zero, List.setIfInBounds_toArray, List.set_cons_succ, List.set_cons_zero]
  refine wpAnyH_ready (rs := [5]) (by kernel_rfl) (by simp) ?_
  refine AllReadyH.cons rfl (fun K hK => ?_) AllReadyH.nil
  go_simp
  refine (P1.out _ (HHW.out.of_heapz (w' := W.drew) rfl (fun _ => rfl) (fun _ => rfl))).mono ?_
  rintro r w2 ⟨rfl, h2, hF2⟩
  have HF2 := Lib.hid (((Frm.refl (Twz N M bn bl) W).drew).trans hF2)
  have H2 := Lib.hid h2
  clear h2 hF2
  refine hK.out _ _ (KS.out _ HF2.out.alz1) (fun hHeld => ?_)
  clear hK K
  try simp only [Act.put, List.getElem_toArray, List.getElem_cons_succ, List.getElem_cons_zero, List.setIfInBounds_toArray, List.set_cons_succ, List.set_cons_zero]
  refine wpAnyH_ready (rs := [11]) (by kernel_rfl) (by simp) ?_
  refine AllReadyH.cons rfl (fun K hK => ?_) AllReadyH.nil
  go_simp
  refine (P2.out _ (HXW.out.past sp HF2.out)).mono ?_
  rintro r w3 ⟨rfl, h3, hF3⟩
  have HF3 := Lib.hid (HF2.out.alz1.trans (hF3.alz2 (N := N) (M := M) (bn := bn) (bl := bl)))
  have H3 := Lib.hid (H2.out.past sp hF3)
  have HX3 := Lib.hid h3
  clear h3 hF3
  refine hK.out _ _ (KS.out _ HF3.out) (fun hHeld => ?_)
  clear hK K
  try simp only [Act.put, List.getElem_toArray, List.getElem_cons_succ, List.getElem_cons_zero, List.setIfInBounds_toArray, List.set_cons_succ, List.set_cons_zero]
  refine wpAnyH_take (i := 12) (v := ?vb12) rfl (by kernel_rfl) (by kernel_rfl) (by kernel_rfl) (fun _ _ _ h => h) (Or.inl ⟨by rfl, ?hyb12⟩) (by assumption) ?restb12
  case hyb12 => (intro w hSw; (try dsimp only at hSw); go_simp) <;> with_reducible rfl
  simp only [Act.put, List.getElem_toArray, List.getElem_cons_succ, List.getElem_cons_zero, List.setIfInBounds_toArray, List.set_cons_succ, List.set_cons_zero]
  refine wpAnyH_take (i := 13) (v := ?vb13) rfl (by kernel_rfl) (by kernel_rfl) (by kernel_rfl) (fun _ _ _ h => h) (Or.inl ⟨by rfl, ?hyb13⟩) (by assumption) ?restb13
  case hyb13 => (intro w hSw; (try dsimp only at hSw); go_simp) <;> with_reducible rfl
  simp only [Act.put, List.getElem_toArray, List.getElem_cons_succ, List.getElem_cons_zero, List.setIfInBounds_toArray, List.set_cons_succ, List.set_cons_zero]
  refine wpAnyH_done (by kernel_rfl) ?_ _
  go_wp2_with fail
  go_ret
  obtain ⟨V', hV'⟩ := HX3.out
  exact ⟨rfl, ⟨R', V', H3.out, hV'⟩, (HF0.out.mono (fun _ _ h => h.elim)).trans HF3.out⟩

set_option maxRecDepth 100000 in
theorem do_remove (h : Has w c bn bl vn vl N M R) (hx : IsRx w rx blr cap n1 V N M R) (sp : Sp c bn bl rx blr n1 N M) (kd li nd : Int) (hk : 0 ≤ kd) (h4 : kd % 5 = 4) :
    Calls Try.prog 16 #[.pointer (some ⟨c, 0, none⟩), .pointer (some ⟨rx, 0, none⟩), .agg #[.int .u64 kd, .int .i64 li, .int .i64 nd]] w
      fun r w' => r = .returned (.bool true) ∧ Both w' c bn bl vn vl rx blr cap n1 N M ∧ Frm (Alz N M bn bl blr) w w' := by
  have h3' : (kd % 5 == 3) = false := by simp [h4]
  have h4' : (kd % 5 == 4) = true := by simpa using h4
  have HK4 := Lib.hid h4
  obtain ⟨q1, q2, q3⟩ := h.ltz
  have q4 := hx.arr.lt
  have H := Lib.hid h
  have HX := Lib.hid hx
  have HQ := Lib.hid (And.intro q1 (And.intro q2 (And.intro q3 q4)))
  clear h hx h4 q1 q2 q3 q4
  go_enter Try.func16, Try.ntmps16
  go_upto_region 1 with fail
  obtain ⟨D, hD⟩ : ∃ D, w.heap.size = D := ⟨_, rfl⟩
  obtain ⟨c1, c2⟩ := cell_new3 w (.int .u64 kd) (.int .i64 li) (.int .i64 nd) 45
  have c0 : (w.alloc (.cells #[.int .u64 kd, .int .i64 li, .int .i64 nd] 45)).cell? ⟨w.heap.size, 0, none⟩ = some (.int .u64 kd) := by simp
  obtain ⟨W, hW⟩ : ∃ W, w.alloc (.cells #[.int .u64 kd, .int .i64 li, .int .i64 nd] 45) = W := ⟨_, rfl⟩
  have HF0 := Lib.hid (show Frm (fun _ => False) w W by rw [← hW]; exact (Frm.refl _ _).alloc _)
  rw [hW, hD] at c1 c2 c0
  rw [hW, hD]
  have HXW := Lib.hid (HX.out.of_frm HF0.out (fun h => h) (fun h => h) (fun _ _ _ h => h))
  have HHW := Lib.hid (H.out.of_heapz (w' := W) (HF0.out.block c HQ.out.1 (fun h => h)) (fun hN => HF0.out.block bn (HQ.out.2.1 hN) (fun h => h)) (fun hM => HF0.out.block bl (HQ.out.2.2.1 hM) (fun h => h)))
  have hDn : ∀ k, Alz N M bn bl blr k → k ≠ D := fun k hk => by
    have := HQ.out
    rcases hk with (⟨a, b⟩ | ⟨a, b⟩) | b
    · have := this.2.1 a; omega
    · have := this.2.2.1 a; omega
    · omega
  have hDl : D < W.heap.size := World.block_lt_of_cell? _ _ c1
  have HD := Lib.hid hDn
  have P1 := Lib.hid (fun (w' : World) (hh : Has w' c bn bl vn vl N M R) => hh.removez nd)
  have P2 := Lib.hid (fun (w' : World) (hh : IsRx w' rx blr cap n1 V N M R) => RX.remove hh H.out.rf nd)
  obtain ⟨q, q', R', hq⟩ : ∃ q q' R', removeR N M R nd = (q, q', R') := ⟨_, _, _, rfl⟩
  rw [hq] at P1 P2
  have KS := Lib.hid (fun (w' : World) (hF : Frm (Alz N M bn bl blr) W w') => show w'.cell? ⟨D, 1, none⟩ = some (.int .i64 li) ∧ w'.cell? ⟨D, 2, none⟩ = some (.int .i64 nd) from
    ⟨(World.cell?_of_block (a := ⟨D, 1, none⟩) (hF.block D hDl (fun hk => HD.out D hk rfl))).trans c1, (World.cell?_of_block (a := ⟨D, 2, none⟩) (hF.block D hDl (fun hk => HD.out D hk rfl))).trans c2⟩)
  clear hW hD hDn hq
  go_wp2_with fail
  refine (P1.out _ HHW.out).mono ?_
  rintro r w2 ⟨rfl, h2, hF2⟩
  have HF2 := Lib.hid hF2
  have H2 := Lib.hid h2
  obtain ⟨c3, c4⟩ := KS.out _ HF2.out.alz1
  clear h2 hF2 c0 c1 c2
  go_wp2_with fail
  refine (P2.out _ (HXW.out.past sp HF2.out)).mono ?_
  rintro r w3 ⟨rfl, h3, hF3⟩
  have HF3 := Lib.hid (HF2.out.alz1.trans (hF3.alz2 (N := N) (M := M) (bn := bn) (bl := bl)))
  have H3 := Lib.hid (H2.out.past sp hF3)
  have HX3 := Lib.hid h3
  clear h3 hF3 c3 c4
  go_wp2_with fail
  go_ret
  obtain ⟨V', hV'⟩ := HX3.out
  exact ⟨rfl, ⟨R', V', H3.out, hV'⟩, (HF0.out.mono (fun _ _ h => h.elim)).trans HF3.out⟩

/-- A row's number that there is, and a row that has one: else nothing comes out. -/
theorem first_cases (M : Nat) (R : Nat → List Nat) (li : Int) : (firstR M R li = -1 ∧ (0 ≤ li → li < M → R li.toNat = [])) ∨ ∃ (i x : Nat) (r : List Nat), li = i ∧ i < M ∧ R i = x :: r := by
  unfold firstR
  by_cases h : 0 ≤ li ∧ li < M
  · rw [if_pos h]
    obtain ⟨i, rfl⟩ := Int.eq_ofNat_of_zero_le h.1
    rw [Int.toNat_natCast]
    cases hR : R i with
    | nil => exact .inl ⟨rfl, fun _ _ => rfl⟩
    | cons x r => exact .inr ⟨i, x, r, rfl, by omega, hR⟩
  · rw [if_neg h]
    exact .inl ⟨rfl, fun h1 h2 => absurd ⟨h1, h2⟩ h⟩

set_option maxRecDepth 100000 in
theorem do_pop (h : Has w c bn bl vn vl N M R) (hx : IsRx w rx blr cap n1 V N M R) (sp : Sp c bn bl rx blr n1 N M) (kd li nd : Int) (hk : 0 ≤ kd) (h3 : kd % 5 = 3) :
    Calls Try.prog 16 #[.pointer (some ⟨c, 0, none⟩), .pointer (some ⟨rx, 0, none⟩), .agg #[.int .u64 kd, .int .i64 li, .int .i64 nd]] w
      fun r w' => r = .returned (.bool true) ∧ Both w' c bn bl vn vl rx blr cap n1 N M ∧ Frm (Alz N M bn bl blr) w w' := by
  have h3' : (kd % 5 == 3) = true := by simpa using h3
  have HK4 := Lib.hid h3
  obtain ⟨q1, q2, q3⟩ := h.ltz
  have q4 := hx.arr.lt
  have H := Lib.hid h
  have HX := Lib.hid hx
  have HQ := Lib.hid (And.intro q1 (And.intro q2 (And.intro q3 q4)))
  clear h hx h3 q1 q2 q3 q4
  go_enter Try.func16, Try.ntmps16
  go_upto_region 1 with fail
  obtain ⟨D, hD⟩ : ∃ D, w.heap.size = D := ⟨_, rfl⟩
  obtain ⟨c1, c2⟩ := cell_new3 w (.int .u64 kd) (.int .i64 li) (.int .i64 nd) 45
  have c0 : (w.alloc (.cells #[.int .u64 kd, .int .i64 li, .int .i64 nd] 45)).cell? ⟨w.heap.size, 0, none⟩ = some (.int .u64 kd) := by simp
  obtain ⟨W, hW⟩ : ∃ W, w.alloc (.cells #[.int .u64 kd, .int .i64 li, .int .i64 nd] 45) = W := ⟨_, rfl⟩
  have HF0 := Lib.hid (show Frm (fun _ => False) w W by rw [← hW]; exact (Frm.refl _ _).alloc _)
  rw [hW, hD] at c1 c2 c0
  rw [hW, hD]
  have HXW := Lib.hid (HX.out.of_frm HF0.out (fun h => h) (fun h => h) (fun _ _ _ h => h))
  have HHW := Lib.hid (H.out.of_heapz (w' := W) (HF0.out.block c HQ.out.1 (fun h => h)) (fun hN => HF0.out.block bn (HQ.out.2.1 hN) (fun h => h)) (fun hM => HF0.out.block bl (HQ.out.2.2.1 hM) (fun h => h)))
  have hDn : ∀ k, Alz N M bn bl blr k → k ≠ D := fun k hk => by
    have := HQ.out
    rcases hk with (⟨a, b⟩ | ⟨a, b⟩) | b
    · have := this.2.1 a; omega
    · have := this.2.2.1 a; omega
    · omega
  have hDl : D < W.heap.size := World.block_lt_of_cell? _ _ c1
  have HD := Lib.hid hDn
  have KS := Lib.hid (fun (w' : World) (hF : Frm (Alz N M bn bl blr) W w') => show w'.cell? ⟨D, 1, none⟩ = some (.int .i64 li) from
    (World.cell?_of_block (a := ⟨D, 1, none⟩) (hF.block D hDl (fun hk => HD.out D hk rfl))).trans c1)
  clear hW hD hDn
  rcases first_cases M R li with ⟨e1, e2⟩ | ⟨i, x, rr, rfl, hi, hR⟩
  · have P1 := Lib.hid (HHW.out.pop_none e1)
    obtain ⟨a, cap', P2⟩ : ∃ a cap', Hid (Calls Try.prog 24 #[.pointer (some ⟨rx, 0, none⟩), .int .i64 li] W fun r w' => r = .returned (.slice a 0 cap') ∧ W = w') := by
      by_cases hin : 0 ≤ li ∧ li < M
      · obtain ⟨i, rfl⟩ := Int.eq_ofNat_of_zero_le hin.1
        have hi : i < M := by omega
        have hR := e2 hin.1 hin.2
        rw [Int.toNat_natCast] at hR
        have ho := HXW.out.rows i hi
        rw [hR] at ho
        obtain ⟨a, cap', hv, -⟩ := own_form ho
        have := RRow_ok HXW.out hi
        rw [hv] at this
        exact ⟨a, cap', Lib.hid this⟩
      · exact ⟨none, 0, Lib.hid (RRow_no HXW.out (by omega))⟩
    clear e1 e2
    go_wp2_with fail
    refine P1.out.mono ?_
    rintro r w' ⟨rfl, rfl⟩
    go_wp2_with fail
    refine P2.out.mono ?_
    rintro r w' ⟨rfl, rfl⟩
    go_wp2_with fail
    go_ret
    exact ⟨rfl, ⟨R, V, HHW.out, HXW.out⟩, HF0.out.mono (fun _ _ h => h.elim)⟩
  · have hxn := H.out.rf.lt i hi x (by rw [hR]; simp)
    have hin := H.out.rf.one i x hi (by rw [hR]; simp)
    have er : removeR N M R x = ((i : Int), (0 : Int), updL R i rr) := by
      unfold removeR
      rw [if_pos (by omega), Int.toNat_natCast, hin, if_neg (by omega), Int.toNat_natCast, hR, List.erase_cons_head]
    have P1 := Lib.hid (HHW.out.pop_some hi hR)
    have P3 := Lib.hid (fun (w' : World) (hh : IsRx w' rx blr cap n1 V N M R) => RX.remove hh H.out.rf x)
    rw [er] at P3
    have hsm := HX.out.small i hi
    have P2 := Lib.hid (fun (w' : World) (hh : IsRx w' rx blr cap n1 V N M R) => RRow_ok hh hi)
    have PC := Lib.hid (fun (w' : World) (hh : IsRx w' rx blr cap n1 V N M R) => hh.rows i hi)
    rw [hR] at PC hsm
    obtain ⟨g, cap', hv⟩ : ∃ g cap', V i = .slice (some ⟨g, 0, none⟩) (rr.length + 1) cap' := by
      have := PC.out _ HX.out
      exact (ownsRow_succ this).imp fun g h => h.imp fun c h => h
    rw [hv] at P2 PC
    have PD := Lib.hid (fun (w' : World) (hh : IsRx w' rx blr cap n1 V N M R) => show w'.cell? ⟨g, 0, none⟩ = some (.int .i64 x) from by
      have := (PC.out w' hh).cells (g := g) rfl 0 _ (show (ints (x :: rr))[0]? = some (.int .i64 x) from rfl)
      have e : (⟨g, 0, none⟩ : Addr).add 0 = ⟨g, 0, none⟩ := rfl
      rwa [e] at this)
    simp only [List.length_cons] at hsm
    clear hR hin er hv PC hxn
    go_wp2_with fail
    refine P1.out.mono ?_
    rintro r w2 ⟨rfl, h2, hF2⟩
    have HF2 := Lib.hid hF2
    have H2 := Lib.hid h2
    have HX2 := Lib.hid (HXW.out.past sp HF2.out)
    have c3 := KS.out _ HF2.out.alz1
    have c4 := PD.out _ HX2.out
    clear h2 hF2 c0 c1 c2
    go_wp2_with fail
    refine (P2.out _ HX2.out).mono ?_
    rintro r w' ⟨rfl, rfl⟩
    go_wp2_with fail
    refine (P3.out _ HX2.out).mono ?_
    rintro r w3 ⟨rfl, h3, hF3⟩
    have HF3 := Lib.hid (HF2.out.alz1.trans (hF3.alz2 (N := N) (M := M) (bn := bn) (bl := bl)))
    have H3 := Lib.hid (H2.out.past sp hF3)
    have HX3 := Lib.hid h3
    clear h3 hF3 c3 c4
    go_wp2_with fail
    go_ret
    obtain ⟨V', hV'⟩ := HX3.out
    exact ⟨rfl, ⟨updL R i rr, V', H3.out, hV'⟩, (HF0.out.mono (fun _ _ h => h.elim)).trans HF3.out⟩

theorem do_any (h : Both w c bn bl vn vl rx blr cap n1 N M) (sp : Sp c bn bl rx blr n1 N M) (hN : N ≤ 4000) (kd li nd : Int) (hk : 0 ≤ kd) :
    Calls Try.prog 16 #[.pointer (some ⟨c, 0, none⟩), .pointer (some ⟨rx, 0, none⟩), .agg #[.int .u64 kd, .int .i64 li, .int .i64 nd]] w
      fun r w' => r = .returned (.bool true) ∧ Both w' c bn bl vn vl rx blr cap n1 N M ∧ Frm (Alz N M bn bl blr) w w' := by
  obtain ⟨R, V, h1, h2⟩ := h
  by_cases h3 : kd % 5 = 3
  · exact do_pop h1 h2 sp kd li nd hk h3
  by_cases h4 : kd % 5 = 4
  · exact do_remove h1 h2 sp kd li nd hk h4
  · exact do_push h1 h2 sp hN kd li nd hk h3 h4
end
end Go.Proofs.Ytgjgcobkppmafaa
