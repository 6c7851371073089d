/- Set (package table). No condition. -/
import Derived.Test.YtedhhohnbekelaaU
namespace Go.Proofs.Ytedhhohnbekelaa
open Go.RowKit Go.Deep

section
variable {w w' : World} {base tb c bn bl n room : Nat} {vn vl lv : Value} {ts : Nat → Tk} {R : Nat → List Nat}

/-- A task is written anew. -/
theorem IsTab.wrote {g cap : Nat} (h : IsTab w base tb c bn bl vn vl (.slice (some ⟨g, 0, none⟩) n cap) n room ts R) (hgb : base ≤ g) {i : Nat} (hi : i < n) (t : Tk) :
    IsTab (w.setCells g (i * 29) (tkArr t).toList) base tb c bn bl vn vl (.slice (some ⟨g, 0, none⟩) n cap) n room (updT ts i t) R ∧ Frm (TabS tb (.slice (some ⟨g, 0, none⟩) n cap)) w (w.setCells g (i * 29) (tkArr t).toList) := by
  have ho := own_setCells (tkArr t).toList (i * 29) w (flat ts n) h.own
  rw [flat_set ts hi t] at ho
  have hF : ∀ (vs : List Value) (o : Nat) (a : World), Frm (fun k => k = g) a (a.setCells g o vs) := by
    intro vs
    induction vs with
    | nil => exact fun o a => Frm.refl _ _
    | cons v vs ih => exact fun o a => ((Frm.refl (fun k => k = g) a).setCell (p := ⟨g, o, none⟩) (fun _ => rfl) v).trans (ih (o + 1) _)
  have hF := hF (tkArr t).toList (i * 29) w
  obtain ⟨l1, l2, l3, l4⟩ := h.low
  exact ⟨⟨hF.blk h.top (by omega), ho, h.ch.keep hF (by omega) (fun h0 => by have := h.apart h0; omega), ⟨l1, l2, l3, Nat.le_trans l4 hF.size⟩, h.apart, h.most⟩, hF.mono fun k _ e => .inr (by rw [e]; rfl)⟩

def setD (n : Nat) (ts : Nat → Tk) (i : Int) (t : Tk) : Int × (Nat → Tk) :=
  if ¬ (0 ≤ i ∧ i < n) then (3, ts) else if may t = false then (1, ts) else if ts i.toNat 25 = 8 then (5, ts) else (0, updT ts i.toNat t)

set_option maxRecDepth 100000 in
set_option maxHeartbeats 2000000 in
theorem TSet_yes (h : IsTab w base tb c bn bl vn vl lv n room ts R) (i : Nat) (hi : i < n) (t : Tk) (hm : may t = true) (h8 : ts i 25 ≠ 8) : Calls Try.prog 9 #[.pointer (some ⟨tb, 0, none⟩), .int .i64 i, tkV t] w
    fun r w' => r = .returned (.int .i64 0) ∧ IsTab w' base tb c bn bl vn vl lv n room (updT ts i t) R ∧ Frm (TabS tb lv) w w' := by
  have HM := Lib.hid (fun w => May_any t w)
  rw [hm] at HM
  have h1 := size30 t
  have h2 := one30 t
  have hT := h.alloc (.cells (tkArr t) 30)
  have HI := Lib.hid (TIs_any hT i)
  rw [isB (i := (i : Int)) ⟨by omega, by omega⟩] at HI
  obtain ⟨a, cap, rfl, hg⟩ := h.lvForm
  obtain ⟨g, rfl, hgb⟩ := hg (by omega)
  have hsz := tkArr_size t
  have HT := Lib.hid hT
  have n8 : (ts i 25 == 8) = false := by simpa using h8
  obtain ⟨V, hV⟩ : ∃ V, V = tkArr t := ⟨_, rfl⟩
  have HVV := Lib.hid hV
  rw [← hV] at h1 h2 HT HI hsz
  unfold tkV at HM ⊢
  rw [← hV] at HM ⊢
  clear h hV hm hT h8 hg
  go_enter Try.func9, Try.ntmps9
  go_wp2_with fail
  refine HI.out.mono ?_
  rintro r w' ⟨rfl, rfl⟩
  go_wp2_with (refine wpList_load_row rfl 30 _ rfl w.heap.size rfl 30 V (0, 0) _ (heap_alloc_new _ _) Try.underlying30 rfl h1 ?_)
  refine (HM.out _).mono ?_
  rintro r w2 ⟨rfl, hb2⟩
  have HT2 := Lib.hid (HT.out.below hb2)
  have HA2 := Lib.hid (show w2.heap[w.heap.size]? = some (.cells V 30 (0, 0)) from (hb2.block w.heap.size (by simp)).trans (heap_alloc_new w _))
  have HF2 := Lib.hid (show Frm (TabS tb (.slice (some ⟨g, 0, none⟩) n cap)) w w2 from ⟨hb2.os, hb2.tape, hb2.output, by have := hb2.size; simp at this; omega, fun k hk _ => (hb2.block k (by simp; omega)).trans (heap_alloc_old w _ hk)⟩)
  have c1 := HT2.out.c1
  have cs := HT2.out.cell hi (o := 25) (by omega)
  rw [show tkKind 25 = .i64 from rfl] at cs
  generalize ts i 25 = st at *
  clear hb2 HM HI HT
  go_upto_region 7 with fail
  obtain ⟨A, hA⟩ : ∃ A, w.heap.size = A := ⟨_, rfl⟩
  rw [hA] at HA2
  rw [hA]
  refine wp_region_cut_held (fun w' => w'.cell? ⟨tb, 1, none⟩ = some (.slice (some ⟨g, 0, none⟩) n cap) ∧ w'.heap[A]? = some (.cells V 30 (0, 0))) 7 (by kernel_rfl) (by kernel_rfl) ⟨HT2.out.c1, HA2.out⟩ (fun hHeld => ?_)
  simp only [List.take_succ_cons, List.take_zero]
  refine wpAnyH_take (i := 0) (v := ?va0) rfl (by kernel_rfl) (by kernel_rfl) (by kernel_rfl) (fun _ _ _ h => h) (Or.inl ⟨by rfl, ?hya0⟩) (by assumption) ?resta0
  case hya0 => (intro w hSw; (try dsimp only at hSw); go_simp) <;> with_reducible rfl
  simp only [Act.put, List.getElem_toArray, List.getElem_cons_succ, List.getElem_cons_zero, List.setIfInBounds_toArray, List.set_cons_succ, List.set_cons_zero]
  refine wpAnyH_take (i := 1) (v := ?va1) rfl (by kernel_rfl) (by kernel_rfl) (by kernel_rfl) (fun _ _ _ h => h) (Or.inl ⟨by rfl, ?hya1⟩) (by assumption) ?resta1
  case hya1 => (intro w hSw; (try dsimp only at hSw); go_simp) <;> with_reducible rfl
  simp only [Act.put, List.getElem_toArray, List.getElem_cons_succ, List.getElem_cons_zero, List.setIfInBounds_toArray, List.set_cons_succ, List.set_cons_zero]
  refine wpAnyH_take (i := 2) (v := ?va2) rfl (by kernel_rfl) (by kernel_rfl) (by kernel_rfl) (fun _ _ _ h => h) (Or.inl ⟨by rfl, ?hya2⟩) (by assumption) ?resta2
  case hya2 => (intro w hSw; (try dsimp only at hSw); go_simp) <;> with_reducible rfl
  simp only [Act.put, List.getElem_toArray, List.getElem_cons_succ, List.getElem_cons_zero, List.setIfInBounds_toArray, List.set_cons_succ, List.set_cons_zero]
  refine wpAnyH_take (i := 3) (v := ?va3) rfl (by kernel_rfl) (by kernel_rfl) (by kernel_rfl) (fun _ _ _ h => h) (Or.inl ⟨by rfl, ?hya3⟩) (by assumption) ?resta3
  case hya3 => (intro w hSw; (try dsimp only at hSw); go_simp) <;> with_reducible rfl
  simp only [Act.put, List.getElem_toArray, List.getElem_cons_succ, List.getElem_cons_zero, List.setIfInBounds_toArray, List.set_cons_succ, List.set_cons_zero]
  refine wpAnyH_take (i := 4) (v := ?va4) rfl (by kernel_rfl) (by kernel_rfl) (by kernel_rfl) (fun _ _ _ h => h) (Or.inl ⟨by rfl, ?hya4⟩) (by assumption) ?resta4
  case hya4 => (intro w hSw; (try dsimp only at hSw); go_simp) <;> with_reducible rfl
  simp only [Act.put, List.getElem_toArray, List.getElem_cons_succ, List.getElem_cons_zero, List.setIfInBounds_toArray, List.set_cons_succ, List.set_cons_zero]
  refine wpAnyH_take (i := 5) (v := .agg V) rfl (by kernel_rfl) (by kernel_rfl) (by kernel_rfl) (fun _ _ _ h => h) (Or.inl ⟨by rfl, ?hyld⟩) (by assumption) ?restld
  case hyld =>
    intro w hSw
    exact yields30 (.tmp 5) rfl A rfl hSw.2 h1
  simp only [Act.put, List.getElem_toArray, List.getElem_cons_succ, List.getElem_cons_zero, List.setIfInBounds_toArray, List.set_cons_succ, List.set_cons_zero]
  refine wpAnyH_take (i := 6) (v := ?vb6) rfl (by kernel_rfl) (by kernel_rfl) (by kernel_rfl) (fun _ _ _ h => h) (Or.inl ⟨by rfl, ?hyb6⟩) (by assumption) ?restb6
  case hyb6 => (intro w hSw; (try dsimp only at hSw); go_simp) <;> with_reducible rfl
  simp only [Act.put, List.getElem_toArray, List.getElem_cons_succ, List.getElem_cons_zero, List.setIfInBounds_toArray, List.set_cons_succ, List.set_cons_zero]
  refine wpAnyH_done (by kernel_rfl) ?_ _
  simp only [headPost, List.drop_succ_cons, List.drop_zero]
  have HT3 := Lib.hid (HT2.out.drewN 1)
  have ht : w2.drew.there g (i * 29) V.size := fun j hj => by
    rw [hsz] at hj
    have := HT3.out.cell hi hj
    exact ⟨by rw [show w2.drew.cell? ⟨g, i * 29 + j, none⟩ = _ from this]; rfl, HT3.out.own.frozenAt _⟩
  have HW := Lib.hid (HT3.out.wrote hgb hi t)
  rw [← HVV.out] at HW
  go_wp2_with (refine wpList_store_mid rfl 30 _ _ rfl g (i * 29) V rfl rfl ht h1 h2 ?_)
  go_ret
  exact ⟨rfl, HW.out.1, HF2.out.trans ((Frm.refl _ _).drewN 1 |>.trans HW.out.2)⟩
end
end Go.Proofs.Ytedhhohnbekelaa
