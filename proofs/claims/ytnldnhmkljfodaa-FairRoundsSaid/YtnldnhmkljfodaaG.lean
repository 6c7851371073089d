/- A part of the proof that fair.Window is one more than the greatest of its gaps (contracts of the functions of package fair). No condition. -/
import Derived.Test.YtnldnhmkljfodaaF
namespace Go.Proofs.Ytnldnhmkljfodaa
open Go.RowKit Go.Shelf

attribute [local go_sem] Oper.semAt_some

theorem draws_any (s : Int) (w : World) :
    Calls Try.prog 18 #[.int .u64 s] w fun r w' => r = .returned (.func (.func 19) #[] #[.pointer (some ⟨w.heap.size, 0, none⟩)]) ∧ w' = w.alloc (.cells #[.int .u64 s] 38) := by
  go_enter Try.func18, Try.ntmps18
  go_wp2
  go_ret
  exact ⟨rfl, rfl⟩

theorem draw_val : bits BinOp.xor IntKind.u64 (IntKind.u64.wrap (bits BinOp.xor IntKind.u64 (IntKind.u64.wrap (bits BinOp.xor IntKind.u64 11400714819323198485 10617743077 * 13787848793156543929)) ((IntKind.u64.wrap (bits BinOp.xor IntKind.u64 11400714819323198485 10617743077 * 13787848793156543929)) / 134217728) * 10723151780598845931)) ((IntKind.u64.wrap (bits BinOp.xor IntKind.u64 (IntKind.u64.wrap (bits BinOp.xor IntKind.u64 11400714819323198485 10617743077 * 13787848793156543929)) ((IntKind.u64.wrap (bits BinOp.xor IntKind.u64 11400714819323198485 10617743077 * 13787848793156543929)) / 134217728) * 10723151780598845931)) / 2147483648) = 16294208416658607535 := by kernel_rfl

set_option maxRecDepth 100000 in
set_option maxHeartbeats 2000000 in
theorem draws1_in (n l B : Nat) (W : World) (R : World → Prop) (hn : 1 ≤ n) (hc : W.cell? ⟨B, 0, none⟩ = some (.int .u64 0)) (hf : W.frozen? ⟨B, 0, none⟩ = false)
    (hY : YieldAt Fence.wide (n - 1) Try.prog l #[.int .u64 16294208416658607535] (W.setCell ⟨B, 0, none⟩ (.int .u64 11400714819323198485)) (fun e W' => e = .returned (.bool false) ∧ R W')) :
    CallsIn Fence.wide n Try.prog 19 #[.func (.yield l) #[] #[], .pointer (some ⟨B, 0, none⟩)] W fun e W' => (∃ u, e = .returned u) ∧ R W' := by
  refine callsIn_of_wp Try.func19 rfl trivial ?_ rfl
  simp only [Try.ntmps19, List.size_toArray, List.length_cons, List.length_nil, Nat.reduceAdd, Nat.reduceSub, Array.replicate_succ, Array.replicate_zero, List.push_toArray, List.append_toArray, List.nil_append, List.cons_append]
  obtain ⟨fn, tmps, assign, body, hy, hR⟩ := hY
  gi_wp2_with fail
  gi_loopw [3] (fun v wr => v = undef ∧ wr = W) (fun _ _ => 0)
  case atStart => exact ⟨rfl, rfl⟩
  case round =>
    obtain ⟨rfl, rfl⟩ := hrel
    have hc1 : (wr.setCell ⟨B, 0, none⟩ (.int .u64 11400714819323198485)).cell? ⟨B, 0, none⟩ = some (.int .u64 11400714819323198485) := World.cell?_setCell_same _ _ _ hc
    gi_wp2
    rw [draw_val, hy]
    gi_wp2
    refine hR.mono ?_
    rintro e W3 ⟨rfl, hr⟩
    gi_wp2
    refine bodyPost_ret (results_none rfl _ _ _) rfl ?_
    exact ⟨⟨_, rfl⟩, hr⟩

theorem Try.info38 : (Try.prog.info? 38).map (fun i => (i.zero, i.size, i.bytes)) = some (some (.int .u64 0), 1, 8) := by kernel_rfl

theorem cut_one (w : World) : Calls Try.prog 12 #[.int .i64 1] w fun r w' => r = .returned (.int .i64 1) ∧ w = w' :=
  (cut_any 1 w (by omega) (by omega)).mono fun r w' ⟨h, e⟩ => ⟨by rw [h]; rfl, e⟩

set_option maxRecDepth 100000 in
set_option maxHeartbeats 2000000 in
theorem draws_in (w : World) :
    CallsIn Fence.wide 5 Try.prog 11 #[.int .u64 0, .int .i64 1] w fun r w' => (∃ v, r = .returned v ∧ w'.ownsRow w.heap.size 38 1 v 1 [.int .u64 16294208416658607535]) ∧ Below w.heap.size w w' := by
  refine callsIn_of_wp_marks Try.func11 rfl trivial ?_ rfl
  simp only [Try.ntmps11, List.size_toArray, List.length_cons, List.length_nil, Nat.reduceAdd, Nat.reduceSub, Array.replicate_succ, Array.replicate_zero, List.push_toArray, List.append_toArray, List.nil_append, List.cons_append]
  gi_wp2_with (first | (refine ⟨trivial, ?_⟩; gi_at_call 12; refine (callsIn_wide.2 (cut_one _)).mono ?_; rintro r w' ⟨rfl, rfl⟩) | (refine ⟨trivial, ?_⟩; gi_at_call 18; refine (callsIn_wide.2 (draws_any _ _)).mono ?_; rintro r w' ⟨rfl, rfl⟩))
  obtain ⟨W0, hW0⟩ : ∃ W0, ((w.alloc (.cells #[.int .i64 1] 3)).alloc (.cells #[.slice none 0 0] 36)).alloc (.cells #[.int .u64 0] 38) = W0 := ⟨_, rfl⟩
  have hsz : W0.heap.size = w.heap.size + 3 := by rw [← hW0]; simp
  have hb0 : Below w.heap.size w W0 := by rw [← hW0]; exact (((Below.refl _ _).alloc (Nat.le_refl _) _).alloc (by simp) _).alloc (by simp; omega) _
  have bN : Boxed W0 w.heap.size 3 (.int .i64 1) := by rw [← hW0]; exact ((Boxed.new w 3 _).alloc _).alloc _
  have bL : Boxed W0 (w.heap.size + 1) 36 (.slice none 0 0) := by
    rw [← hW0]
    have := Boxed.new (w.alloc (.cells #[.int .i64 1] 3)) 36 (.slice none 0 0)
    rw [World.size_alloc] at this
    exact this.alloc _
  have bS : Boxed W0 (w.heap.size + 1 + 1) 38 (.int .u64 0) := by
    rw [← hW0]
    have := Boxed.new ((w.alloc (.cells #[.int .i64 1] 3)).alloc (.cells #[.slice none 0 0] 36)) 38 (.int .u64 0)
    rw [World.size_alloc, World.size_alloc] at this
    exact this
  rw [hW0]
  clear hW0
  obtain ⟨i0, hi, hz0, hz1, hz2⟩ := info_parts Try.info38
  refine range_once rfl (by omega) (gf := 19) (lb := #[.pointer (some ⟨w.heap.size + 1 + 1, 0, none⟩)]) rfl trivial (enters_of Try.func19 (by kernel_rfl) rfl)
    #[.int .u64 16294208416658607535] rfl ⟨w.heap.size + 1 + 1, 0, none⟩ (.int .u64 11400714819323198485) (by simp; omega)
    (fun l W R hW hY => draws1_in 4 l (w.heap.size + 1 + 1) W R (by omega) ((hW.cell (p := ⟨w.heap.size + 1 + 1, 0, none⟩) (by simp; omega)).trans bS.cell) ((hW.frozen (p := ⟨w.heap.size + 1 + 1, 0, none⟩) (by simp; omega)).trans bS.frozen) hY)
    0 (fun W => (∃ v, Boxed W (w.heap.size + 1) 36 v ∧ W.ownsRow w.heap.size 38 1 v 1 [.int .u64 16294208416658607535]) ∧ Below w.heap.size w W)
    ?hix { tmps := #[.int .u64 0, .int .i64 1, undef, .pointer (some ⟨w.heap.size, 0, none⟩), .pointer (some ⟨w.heap.size + 1, 0, none⟩), .int .u64 16294208416658607535, .int .i64 1, .int .i64 1, .int .i64 1, .bool false, .int .u64 0, .func (.func 19) #[] #[.pointer (some ⟨w.heap.size + 1 + 1, 0, none⟩)], .int .u64 16294208416658607535, undef, undef, undef, undef, undef, undef, undef, undef, undef], defers := [] } ?assign ?body ?stop
  case hix =>
    rintro W l o o' ⟨⟨v, hv, hr⟩, hB⟩ hl ho hc
    refine ⟨⟨v, ?_, ownsRow_putObj hr _ ho hc⟩, ⟨hB.os, hB.tape, hB.output, by have := hB.size; simpa using this, fun k hk => (World.putObj_heap_other (by omega)).trans (hB.block k hk)⟩⟩
    exact (World.putObj_heap_other (by omega)).trans hv
  case assign =>
    intro l W K hK
    gi_wp2
    exact hK
  case body =>
    intro l W hW hs
    have hv : Boxed W (w.heap.size + 1) 36 (.slice none 0 0) := (hW.block _ (by omega)).trans ((Below.heap_setCell _ _ _ _ (by simp)).trans bL)
    have hn : Boxed W w.heap.size 3 (.int .i64 1) := (hW.block _ (by omega)).trans ((Below.heap_setCell _ _ _ _ (by simp; omega)).trans bN)
    have hB : Below w.heap.size w W := (hb0.setCell (p := ⟨w.heap.size + 1 + 1, 0, none⟩) (by simp; omega) _).trans (hW.mono (by omega))
    have hc := hv.cell
    have hrow : W.ownsRow w.heap.size 38 1 (.slice none 0 0) 0 [] := World.ownsRow_nil _ _ _ _
    have HK := Lib.hid hB
    gi_wp2_with (gi_at_builtin; refine wpListIn_append_own _ rfl _ _ 36 rfl w.heap.size 38 i0 (.int .u64 0) 1 8 Try.underlying36 hi hz0 hz1 hz2 rfl (by decide) _ _ _ rfl (hrow.alloc _) ⟨W.heap.size, 0, none⟩ 1 1 [.int .u64 16294208416658607535] rfl rfl (cell_one_new _ _ _) (by simp [Value.oneCell']) (by simp [maxLen]) (by omega) (by simp; omega) ?_; intro v' w1 hown' hgrow _; obtain ⟨g', cap', rfl⟩ := ownsRow_succ hown'; obtain ⟨hv1, hv2, hr2, hk2, hb2⟩ := hv.appended (by decide) hrow HK.out.size (Nat.le_succ _) hown' hgrow; have hc1 := hv1.cell; have hf1 := hv1.frozen; have hc2 := hv2.cell; have hn1 := ((hn.alloc (.cells #[.int .u64 16294208416658607535] 38)).kept hgrow (by intro e; cases e)).cell)
    exact ⟨rfl, hk2, ⟨_, hv2, hr2⟩, HK.out.trans hb2⟩
  case stop =>
    rintro D W hD ⟨⟨v, hv, hr⟩, hB⟩ hK
    obtain ⟨g, cap, rfl⟩ := ownsRow_succ hr
    have hc := hv.cell
    have hf := hv.frozen
    gi_wp2
    have hv' := hv.set (.slice (some ⟨g, 0, none⟩) 1 cap)
    have hK' := (KeepsOthers.setCell W ⟨w.heap.size + 1, 0, none⟩ (.slice (some ⟨g, 0, none⟩) 1 cap)).same D _ hK rfl
    have hr' : (W.setCell ⟨w.heap.size + 1, 0, none⟩ (.slice (some ⟨g, 0, none⟩) 1 cap)).ownsRow w.heap.size 38 1 (.slice (some ⟨g, 0, none⟩) 1 cap) 1 [.int .u64 16294208416658607535] :=
      hr.kept (grownBy_setCell' W (w.heap.size + 1) _) (.inr (hv.not_row (by decide) hr).symm)
    have hB' := hB.setCell (p := ⟨w.heap.size + 1, 0, none⟩) (by simp) (.slice (some ⟨g, 0, none⟩) 1 cap)
    refine ⟨by simp, .inl ⟨_, _, rfl, run_takeDeferred hK', ?_⟩⟩
    have hc5 := cell_kept hv'.cell (grownBy_putObj' _ D (.deferred none)) (fun r e => by cases e; exact ⟨_, hK', rfl⟩)
    refine ⟨_, by simp [results, Try.results11, go_sem, hc5], ⟨_, rfl, ownsRow_putObj hr' _ hK' rfl⟩, hB'.trans (belowK_b (w := w) (Nat.le_refl _) _ D _ _ (by omega) hK' rfl rfl)⟩

theorem draws_one (w : World) :
    Calls Try.prog 11 #[.int .u64 0, .int .i64 1] w fun r w' => (∃ v, r = .returned v ∧ w'.ownsRow w.heap.size 38 1 v 1 [.int .u64 16294208416658607535]) ∧ Below w.heap.size w w' :=
  callsIn_wide.1 (draws_in w)
end Go.Proofs.Ytnldnhmkljfodaa
