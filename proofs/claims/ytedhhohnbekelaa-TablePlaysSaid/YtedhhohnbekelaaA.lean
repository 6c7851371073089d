/- Add (package table). No condition. -/
import Derived.Test.YtedhhohnbekelaaP
namespace Go.Proofs.Ytedhhohnbekelaa
open Go.RowKit Go.Deep

/-- What Add may turn: the table's block, and that of its tasks. -/
def TabS (tb : Nat) (lv : Value) : Nat → Prop := fun k => k = tb ∨ some k = lv.ownBlock

def AddTo (w : World) (base tb c bn bl : Nat) (vn vl lv : Value) (n room : Nat) (ts : Nat → Tk) (R : Nat → List Nat) (t : Tk) (r : Ending) (w' : World) : Prop :=
  r = .returned (.tuple #[.int .i64 n, .int .i64 0]) ∧ ∃ lv', IsTab w' base tb c bn bl vn vl lv' (n + 1) room (updT ts n t) R ∧ Frm (TabS tb lv) w w' ∧ (lv'.ownBlock = lv.ownBlock ∨ ∃ g, w.heap.size ≤ g ∧ lv'.ownBlock = some g)

section
variable {w w' : World} {base tb c bn bl n room : Nat} {vn vl lv : Value} {ts : Nat → Tk} {R : Nat → List Nat}

theorem IsTab.of_grown {n' : Nat} {ts' : Nat → Tk} {v' : Value} (h : IsTab w base tb c bn bl vn vl lv n room ts R) (hg : w.grownBy w' lv.ownBlock) (ho : w'.ownsRow base 30 29 v' n' (flat ts' n')) (hne : ∀ k, k < base → some k ≠ lv.ownBlock) (hn : n' ≤ room := by omega) :
    IsTab (w'.setCell ⟨tb, 1, none⟩ v') base tb c bn bl vn vl v' n' room ts' R := by
  have hF : Frm (fun k => some k = lv.ownBlock) w w' := ⟨hg.os, hg.tape, hg.output, hg.size, fun k hk hs => hg.block k hk hs⟩
  have hF2 : Frm (fun k => k = tb ∨ some k = lv.ownBlock) w (w'.setCell ⟨tb, 1, none⟩ v') := (hF.mono fun _ _ h => .inr h).setCell (p := ⟨tb, 1, none⟩) (fun _ => .inl rfl) v'
  obtain ⟨l1, l2, l3, l4⟩ := h.low
  have hc : ∀ k, k < base → k ≠ tb → ¬ (k = tb ∨ some k = lv.ownBlock) := fun k hk hk2 hs => hs.elim hk2 (hne k hk)
  refine ⟨((hF.blk h.top (hne tb l1)).set 1 v').congr fun o ho => ?_, own_of_heap ho fun k hk => Below.heap_setCell _ _ _ _ (by have := (ho.lt k hk).1; simp only []; omega), h.ch.keep hF2 (hc c l2 (fun e => l3 e.symm)) (fun h0 => ⟨hc bn (h.apart h0).1 (fun e => (h.apart h0).2.2.1 e.symm), hc bl (h.apart h0).2.1 (fun e => (h.apart h0).2.2.2 e.symm)⟩), ⟨l1, l2, l3, Nat.le_trans l4 hF2.size⟩, h.apart, ⟨hn, h.most.2⟩⟩
  match o, ho with
  | 0, _ => rfl
  | 1, _ => rfl
  | 2, _ => rfl

set_option maxRecDepth 100000 in
set_option maxHeartbeats 2000000 in
theorem TAdd_yes (h : IsTab w base tb c bn bl vn vl lv n room ts R) (t : Tk) (hm : may t = true) (hn : n < room) : Calls Try.prog 8 #[.pointer (some ⟨tb, 0, none⟩), tkV t] w (AddTo w base tb c bn bl vn vl lv n room ts R t) := by
  have HM := Lib.hid (fun w => May_any t w)
  rw [hm] at HM
  have h1 := size30 t
  have HT := Lib.hid (h.alloc (.cells (tkArr t) 30))
  have hlow := h.low
  have hmost := h.most
  have hge : ¬ (room : Int) ≤ n := by omega
  have HLV := Lib.hid (fun g (hg : lv.ownBlock = some g) => (h.own.lt g hg).2)
  obtain ⟨V, hV⟩ : ∃ V, V = tkArr t := ⟨_, rfl⟩
  have HVV := Lib.hid hV
  rw [← hV] at h1 HT
  unfold tkV at HM ⊢
  rw [← hV] at HM ⊢
  clear h hV hm
  go_enter Try.func8, Try.ntmps8
  go_wp2_with (refine wpList_load_row rfl 30 _ rfl w.heap.size rfl 30 V (0, 0) _ (heap_alloc_new _ _) Try.underlying30 rfl h1 ?_)
  refine (HM.out _).mono ?_
  rintro r w2 ⟨rfl, hb2⟩
  have HT2 := Lib.hid (HT.out.below hb2)
  have HB2 := Lib.hid hb2
  have HL := Lib.hid (TLen_any HT2.out)
  have HR := Lib.hid (TRoom_any HT2.out)
  have hA2 : w2.heap[w.heap.size]? = some (.cells V 30 (0, 0)) := (hb2.block w.heap.size (by simp)).trans (heap_alloc_new w _)
  have HA2 := Lib.hid hA2
  clear hb2 hA2 HM
  go_wp2_with fail
  refine HL.out.mono ?_
  rintro r w' ⟨rfl, rfl⟩
  go_wp2_with fail
  refine HR.out.mono ?_
  rintro r w' ⟨rfl, rfl⟩
  go_upto_region 5 with fail
  obtain ⟨A, hA⟩ : ∃ A, w.heap.size = A := ⟨_, rfl⟩
  rw [hA] at HA2
  rw [hA]
  refine wp_region_cut_held (fun w' => w'.cell? ⟨tb, 1, none⟩ = some lv ∧ w'.heap[A]? = some (.cells V 30 (0, 0))) 10 (by kernel_rfl) (by kernel_rfl) ⟨HT2.out.c1, HA2.out⟩ (fun hHeld => ?_)
  simp only [List.take_succ_cons, List.take_zero]
  refine wpAnyH_take (i := 0) (v := ?va0) rfl (by kernel_rfl) (by kernel_rfl) (by kernel_rfl) (fun _ _ _ h => h) (Or.inl ⟨by rfl, ?hya0⟩) (by assumption) ?resta0
  case hya0 => (intro w hSw; (try dsimp only at hSw); go_simp) <;> with_reducible rfl
  simp only [Act.put, List.getElem_toArray, List.getElem_cons_succ, List.getElem_cons_zero, List.setIfInBounds_toArray, List.set_cons_succ, List.set_cons_zero]
  refine wpAnyH_take (i := 1) (v := ?va1) rfl (by kernel_rfl) (by kernel_rfl) (by kernel_rfl) (fun _ _ _ h => h) (Or.inl ⟨by rfl, ?hya1⟩) (by assumption) ?resta1
  case hya1 => (intro w hSw; (try dsimp only at hSw); go_simp) <;> with_reducible rfl
  simp only [Act.put, List.getElem_toArray, List.getElem_cons_succ, List.getElem_cons_zero, List.setIfInBounds_toArray, List.set_cons_succ, List.set_cons_zero]
  refine wpAnyH_take (i := 2) (v := ?va2) rfl (by kernel_rfl) (by kernel_rfl) (by kernel_rfl) (fun _ _ _ h => h) (Or.inl ⟨by rfl, ?hya2⟩) (by assumption) ?resta2
  case hya2 => (intro w hSw; (try dsimp only at hSw); go_simp) <;> with_reducible rfl
  simp only [Act.put, List.getElem_toArray, List.getElem_cons_succ, List.getElem_cons_zero, List.setIfInBounds_toArray, List.set_cons_succ, List.set_cons_zero]
  refine wpAnyH_take (i := 3) (v := ?va3) rfl (by kernel_rfl) (by kernel_rfl) (by kernel_rfl) (fun _ _ _ h => h) (Or.inl ⟨by rfl, ?hya3⟩) (by assumption) ?resta3
  case hya3 => (intro w hSw; (try dsimp only at hSw); go_simp) <;> with_reducible rfl
  simp only [Act.put, List.getElem_toArray, List.getElem_cons_succ, List.getElem_cons_zero, List.setIfInBounds_toArray, List.set_cons_succ, List.set_cons_zero]
  refine wpAnyH_take (i := 4) (v := ?va4) rfl (by kernel_rfl) (by kernel_rfl) (by kernel_rfl) (fun _ _ _ h => h) (Or.inl ⟨by rfl, ?hya4⟩) (by assumption) ?resta4
  case hya4 => (intro w hSw; (try dsimp only at hSw); go_simp) <;> with_reducible rfl
  simp only [Act.put, List.getElem_toArray, List.getElem_cons_succ, List.getElem_cons_zero, List.setIfInBounds_toArray, List.set_cons_succ, List.set_cons_zero]
  refine wpAnyH_take (i := 5) (v := .agg V) rfl (by kernel_rfl) (by kernel_rfl) (by kernel_rfl) (fun _ _ _ h => h) (Or.inl ⟨by rfl, ?hyld⟩) (by assumption) ?restld
  case hyld =>
    intro w hSw
    exact yields30 (.tmp 3) rfl A rfl hSw.2 h1
  simp only [Act.put, List.getElem_toArray, List.getElem_cons_succ, List.getElem_cons_zero, List.setIfInBounds_toArray, List.set_cons_succ, List.set_cons_zero]
  refine wpAnyH_ready (rs := [6]) (by kernel_rfl) (by simp) ?_
  refine AllReadyH.cons rfl (fun K hK => ?_) AllReadyH.nil
  refine step_build1 (by rfl) (.tmp 21) (by rfl) t (by unfold tkV; rw [← HVV.out]; rfl) ?_
  rw [← HVV.out]
  have hs2 : w.heap.size < w2.heap.size := by have := HB2.out.size; simp at this; omega
  obtain ⟨W3, hW3⟩ : ∃ W, w2.drew.alloc (.cells V 30) = W := ⟨_, rfl⟩
  have HT3 := Lib.hid (show IsTab W3 base tb c bn bl vn vl lv n room ts R by rw [← hW3]; exact (HT2.out.drewN 1).alloc _)
  have HA3 := Lib.hid (show W3.heap[A]? = some (.cells V 30 (0, 0)) by rw [← hW3, heap_alloc_old _ _ (by show A < w2.heap.size; omega)]; exact HA2.out)
  have HN3 := Lib.hid (show W3.heap[w2.heap.size]? = some (.cells (tkArr t) 30 (0, 0)) by rw [← hW3, ← HVV.out]; exact heap_alloc_new w2.drew _)
  have HF3 := Lib.hid (show Frm (TabS tb lv) w W3 by
    rw [← hW3]
    refine Frm.alloc ?_ _
    exact ⟨HB2.out.os.trans rfl, HB2.out.tape.trans rfl, HB2.out.output.trans rfl, by show w.heap.size ≤ w2.heap.size; omega, fun k hk _ => (HB2.out.block k (by simp; omega)).trans (heap_alloc_old w _ hk)⟩)
  rw [hW3]
  refine hK.out _ _ ⟨HT3.out.c1, HA3.out⟩ (fun hHeld => ?_)
  clear hK K hW3
  try simp only [Act.put, List.getElem_toArray, List.getElem_cons_succ, List.getElem_cons_zero, List.setIfInBounds_toArray, List.set_cons_succ, List.set_cons_zero]
  refine wpAnyH_ready (rs := [7]) (by kernel_rfl) (by simp) ?_
  refine AllReadyH.cons rfl (fun K hK => ?_) AllReadyH.nil
  refine step_append30 (by rfl) (.tmp 20) (.tmp 22) (by rfl) base t (by rfl) HT3.out.own w2.heap.size (by rfl) HN3.out (by omega) HT3.out.low.2.2.2 ?_
  intro v' W4 hown' hgrow hblk
  obtain ⟨g', cap', hv'⟩ := ownsRow_succ hown'
  subst hv'
  have hne : ∀ k, k < base → some k ≠ lv.ownBlock := fun k hk e => by have := (HT3.out.own.lt k e.symm).1; omega
  have HT4 := Lib.hid (HT3.out.of_grown hgrow hown' hne)
  have cT : W4.cell? ⟨tb, 1, none⟩ = some lv := hgrow.cell HT3.out.c1 (hne tb hlow.1)
  have HA4 := Lib.hid (show W4.heap[A]? = some (.cells V 30 (0, 0)) from (hgrow.block A (by have := HA3.out; exact (Array.getElem?_eq_some_iff.1 this).1) (fun e => by have := HLV.out A e.symm; omega)).trans HA3.out)
  have fT : W4.frozen? ⟨tb, 1, none⟩ = false := (World.frozen?_of_block (a := ⟨tb, 1, none⟩) (hgrow.block tb HT3.out.top.lt (hne tb hlow.1))).trans (HT3.out.top.frozen 1)
  have HF4 := Lib.hid (show Frm (TabS tb lv) w W4 from ⟨hgrow.os.trans HF3.out.os, hgrow.tape.trans HF3.out.tape, hgrow.output.trans HF3.out.output, Nat.le_trans HF3.out.size hgrow.size, fun k hk hs => (hgrow.block k (Nat.lt_of_lt_of_le hk HF3.out.size) (fun e => hs (.inr e))).trans (HF3.out.block k hk hs)⟩)
  have HBK := Lib.hid (show (Value.slice (some ⟨g', 0, none⟩) (n + 1) cap').ownBlock = lv.ownBlock ∨ ∃ g, w.heap.size ≤ g ∧ (Value.slice (some ⟨g', 0, none⟩) (n + 1) cap').ownBlock = some g from hblk.imp id (fun e => ⟨_, HF3.out.size, e⟩))
  refine hK.out _ _ ⟨cT, HA4.out⟩ (fun hHeld => ?_)
  clear hK K hown' hgrow hblk
  try simp only [Act.put, List.getElem_toArray, List.getElem_cons_succ, List.getElem_cons_zero, List.setIfInBounds_toArray, List.set_cons_succ, List.set_cons_zero]
  refine wpAnyH_take (i := 8) (v := ?vb8) rfl (by kernel_rfl) (by kernel_rfl) (by kernel_rfl) (fun _ _ _ h => h) (Or.inl ⟨by rfl, ?hyb8⟩) (by assumption) ?restb8
  case hyb8 => (intro w hSw; (try dsimp only at hSw); go_simp) <;> with_reducible rfl
  simp only [Act.put, List.getElem_toArray, List.getElem_cons_succ, List.getElem_cons_zero, List.setIfInBounds_toArray, List.set_cons_succ, List.set_cons_zero]
  refine wpAnyH_take (i := 9) (v := ?vb9) rfl (by kernel_rfl) (by kernel_rfl) (by kernel_rfl) (fun _ _ _ h => h) (Or.inl ⟨by rfl, ?hyb9⟩) (by assumption) ?restb9
  case hyb9 => (intro w hSw; (try dsimp only at hSw); go_simp) <;> with_reducible rfl
  simp only [Act.put, List.getElem_toArray, List.getElem_cons_succ, List.getElem_cons_zero, List.setIfInBounds_toArray, List.set_cons_succ, List.set_cons_zero]
  refine wpAnyH_done (by kernel_rfl) ?_ _
  simp only [headPost, List.drop_succ_cons, List.drop_zero]
  go_wp2_with fail
  go_ret2
  exact ⟨by first | rfl | (simp; done) | (simp; omega), _, HT4.out, (HF4.out.setCell (p := ⟨tb, 1, none⟩) (fun _ => .inl rfl) _), HBK.out⟩
end
end Go.Proofs.Ytedhhohnbekelaa
