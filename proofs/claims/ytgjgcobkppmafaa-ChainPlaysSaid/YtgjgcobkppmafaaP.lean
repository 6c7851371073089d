/- A part of the proof of ChainNobody: a loop over the row of nobody, and the walk of the law. No condition. -/
import Derived.RangeFuncNested
import Derived.RangeFuncBound
import Derived.RangeFuncCalls
import Derived.RangeFuncLeaves
import Derived.RangeFuncFrom
import Derived.Shelf.Abstract
import Derived.Shelf.RegionOpen
import Derived.OwnWalkIn
import Derived.TacticsInMore
import Derived.LoopNIn
import Derived.LoopIn
import Derived.Lib.Hide
import Derived.Outline
import Derived.Test.YtgjgcobkppmafaaO
namespace Go.Proofs.Ytgjgcobkppmafaa
open Go.RowKit Go.Shelf

attribute [local go_sem] Oper.semAt_some

theorem Each_none (i : Int) (w : World) :
    Calls Try.prog 11 #[.pointer none, .int .i64 i] w
      fun r w' => r = .returned (.func (.func 22) #[] #[.pointer (some ⟨w.heap.size, 0, none⟩), .pointer (some ⟨w.heap.size + 1, 0, none⟩)]) ∧
        w' = (w.alloc (.cells #[.pointer none] 22)).alloc (.cells #[.int .i64 i] 3) := by
  go_enter Try.func11, Try.ntmps11
  go_wp2
  go_ret
  exact ⟨rfl, rfl⟩

theorem Each_ptr (p : Addr) (i : Int) (w : World) :
    Calls Try.prog 11 #[.pointer (some p), .int .i64 i] w
      fun r w' => r = .returned (.func (.func 22) #[] #[.pointer (some ⟨w.heap.size, 0, none⟩), .pointer (some ⟨w.heap.size + 1, 0, none⟩)]) ∧
        w' = (w.alloc (.cells #[.pointer (some p)] 22)).alloc (.cells #[.int .i64 i] 3) := by
  go_enter Try.func11, Try.ntmps11
  go_wp2
  go_ret
  exact ⟨rfl, rfl⟩

set_option maxRecDepth 100000 in
set_option maxHeartbeats 2000000 in
/-- A loop over the row of nobody has nothing. -/
theorem each_nobody (n Bc Bi : Nat) (i : Int) (Kp : World → World → Prop) (w : World) (hn : 1 ≤ n) (hBc : Bc < w.heap.size) (hBi : Bi < w.heap.size)
    (hc : w.cell? ⟨Bc, 0, none⟩ = some (.pointer none)) (hi : w.cell? ⟨Bi, 0, none⟩ = some (.int .i64 i)) :
    SeqStopsK Fence.wide n Try.prog 22 #[.pointer (some ⟨Bc, 0, none⟩), .pointer (some ⟨Bi, 0, none⟩)] (fun x : Nat => #[Value.int .i64 x]) Kp (fun ys => ys = []) (fun _ => False) 0 w := by
  intro l J Jx W hW hJ _ hY h0
  have hc' := (hW.cell (p := ⟨Bc, 0, none⟩) hBc).trans hc
  have hi' := (hW.cell (p := ⟨Bi, 0, none⟩) hBi).trans hi
  have HJ := Lib.hid h0
  clear hJ hY h0
  refine callsIn_of_wp Try.func22 rfl trivial ?_ rfl
  simp only [Try.ntmps22, List.size_toArray, List.length_cons, List.length_nil, Nat.reduceAdd, Nat.reduceSub, Array.replicate_succ, Array.replicate_zero, List.push_toArray, List.append_toArray, List.nil_append, List.cons_append]
  gi_wp2_with (refine ⟨trivial, ?_⟩; gi_at_call 18; refine (callsIn_wide.2 (First_nil _ _)).mono ?_; rintro r w' ⟨rfl, rfl⟩)
  gi_loopw [4, 5, 6] (fun a b c wr => a = .slice none 0 0 ∧ c = .bool false ∧ W = wr) (fun _ _ _ _ => 0)
  case atStart => exact ⟨rfl, rfl, rfl⟩
  case round =>
    obtain ⟨rfl, rfl, rfl⟩ := hrel
    gi_wp2
    gi_loopw [28] (fun i wr => i = .int .i64 0 ∧ W = wr) (fun _ _ => 0)
    case atStart => exact ⟨rfl, rfl⟩
    case round =>
      obtain ⟨rfl, rfl⟩ := hrel
      gi_wp2
      go_end0
      exact ⟨⟨_, rfl⟩, .inl ⟨_, rfl, HJ.out⟩⟩
set_option maxRecDepth 100000 in
set_option maxHeartbeats 2000000 in
theorem nobody_in (i x : Int) (w : World) : CallsIn Fence.wide 5 Try.prog 6 #[.int .i64 i, .int .i64 x] w fun r w' => r = .returned (.bool true) ∧ Below w.heap.size w w' := by
  refine callsIn_of_wp_marks Try.func6 rfl trivial ?_ rfl
  simp only [Try.ntmps6, List.size_toArray, List.length_cons, List.length_nil, Nat.reduceAdd, Nat.reduceSub, Array.replicate_succ, Array.replicate_zero, List.push_toArray, List.append_toArray, List.nil_append, List.cons_append]
  gi_wp2_with fail
  refine ⟨trivial, ?_⟩
  refine (callsIn_wide.2 (Pop_nil i _)).mono ?_
  rintro r w' ⟨rfl, rfl⟩
  gi_wp2_with fail
  refine ⟨trivial, ?_⟩
  refine (callsIn_wide.2 (In_nil x _)).mono ?_
  rintro r w' ⟨rfl, rfl⟩
  gi_wp2_with fail
  refine ⟨trivial, ?_⟩
  refine (callsIn_wide.2 (First_nil i _)).mono ?_
  rintro r w' ⟨rfl, rfl⟩
  gi_wp2_with fail
  refine ⟨trivial, ?_⟩
  refine (callsIn_wide.2 (Next_nil x _)).mono ?_
  rintro r w' ⟨rfl, rfl⟩
  gi_wp2_with fail
  refine ⟨trivial, ?_⟩
  refine (callsIn_wide.2 (Remove_nil x _)).mono ?_
  rintro r w' ⟨rfl, rfl⟩
  gi_wp2_with fail
  refine ⟨trivial, ?_⟩
  refine (callsIn_wide.2 (Each_none i _)).mono ?_
  rintro r w1 ⟨rfl, hw1⟩
  obtain ⟨W1, hW1⟩ : ∃ W1, W1 = w1 := ⟨_, rfl⟩
  subst hW1
  gi_wp2_with fail
  gi_wp2_with fail
  rename_i hK
  refine hK _ _ ?_
  clear hK
  gi_wp2_with fail
  refine ⟨trivial, ?_⟩
  refine (callsIn_wide.2 (Push_nil i x _)).mono ?_
  rintro r w' ⟨rfl, rfl⟩
  gi_wp2_with fail
  refine ⟨trivial, ?_⟩
  refine (callsIn_wide.2 (Len_nil i _)).mono ?_
  rintro r w' ⟨rfl, rfl⟩
  gi_wp2_with fail
  obtain ⟨W0, hW0⟩ : ∃ W0, ((w.alloc (.cells #[.bool false] 4)).alloc (.cells #[.pointer none] 22)).alloc (.cells #[.int .i64 i] 3) = W0 := ⟨_, rfl⟩
  have hsz : W0.heap.size = w.heap.size + 3 := by rw [← hW0]; simp
  have hb0 : Below w.heap.size w W0 := by rw [← hW0]; exact (((Below.refl _ _).alloc (Nat.le_refl _) _).alloc (by simp) _).alloc (by simp; omega) _
  have hc0 : W0.cell? ⟨w.heap.size, 0, none⟩ = some (.bool false) := by rw [← hW0]; simp [go_sem]
  have hf0 : W0.frozen? ⟨w.heap.size, 0, none⟩ = false := by rw [← hW0]; simp [go_sem]
  have hc1 : W0.cell? ⟨w.heap.size + 1, 0, none⟩ = some (.pointer none) := by rw [← hW0]; simp [go_sem]
  have hc2 : W0.cell? ⟨w.heap.size + 1 + 1, 0, none⟩ = some (.int .i64 i) := by rw [← hW0]; simp [go_sem]
  clear hw1
  rw [hW0]
  clear hW0
  refine wpIn_rangeFunc_ownF rfl (by omega) (gf := 22) (lb := #[.pointer (some ⟨w.heap.size + 1, 0, none⟩), .pointer (some ⟨w.heap.size + 1 + 1, 0, none⟩)]) rfl trivial (enters_of Try.func22 (by kernel_rfl) rfl)
    (each_nobody 4 (w.heap.size + 1) (w.heap.size + 1 + 1) i (fun _ _ => True) W0 (by omega) (by omega) (by omega) hc1 hc2)
    (fun _ _ => trivial) (fun _ _ _ _ _ _ _ _ => trivial) (Below.refl _ _) (fun _ => rfl)
    (fun _ W => (W.cell? ⟨w.heap.size, 0, none⟩ = some (.bool false) ∧ W.frozen? ⟨w.heap.size, 0, none⟩ = false) ∧ Below w.heap.size w W)
    (fun _ _ _ => False)
    (OwnFrom.and (Own.from (fun s A B row hs hg hr => ⟨cell_kept hs.1 hg hr, (frozen_kept hs.1 hg hr).trans hs.2⟩) _) (ownFrom_below (Nat.le_refl _) (by omega)))
    (fun _ _ _ _ _ hs _ _ => hs.elim)
    ⟨⟨hc0, hf0⟩, hb0⟩
    ?a1 ?assign ?body ?done ?stop
  case assign =>
    intro l x W K hK
    gi_wp2
    exact hK
  case body =>
    intro l pre x W _ hl
    exact absurd hl (Nat.not_lt_zero _)
  case done =>
    rintro D ys W hD rfl ⟨⟨hc, hf⟩, hB⟩ hK
    have hs := hB.size
    gi_wp2_with fail
    refine ⟨trivial, ?_⟩
    refine (callsIn_wide.2 (lives_any _)).mono ?_
    rintro r w4 ⟨rfl, hb4⟩
    have hDl : D < W.heap.size := (Array.getElem?_eq_some_iff.1 hK).1
    have hK4 : w4.heap[D]? = some (.deferred (some [])) := (hb4.block D hDl).trans hK
    have hc4 : w4.cell? ⟨w.heap.size, 0, none⟩ = some (.bool false) := (hb4.cell (p := ⟨w.heap.size, 0, none⟩) (by simp only []; omega)).trans hc
    have hf4 : w4.frozen? ⟨w.heap.size, 0, none⟩ = false := (World.frozen?_of_block (w := W) (hb4.block _ (by simp only []; omega))).trans hf
    have hB4 := hB.trans (hb4.mono hs)
    clear hK hc hf hb4
    gi_wp2
    have hc' : (w4.setCell ⟨w.heap.size, 0, none⟩ (.bool true)).cell? ⟨w.heap.size, 0, none⟩ = some (.bool true) := World.cell?_setCell_same _ _ _ hc4
    have hK' : (w4.setCell ⟨w.heap.size, 0, none⟩ (.bool true)).heap[D]? = some (.deferred (some [])) := (KeepsOthers.setCell _ _ _).same D _ hK4 rfl
    have hB' := hB4.setCell (p := ⟨w.heap.size, 0, none⟩) (Nat.le_refl _) (.bool true)
    refine ⟨by simp, .inl ⟨_, _, rfl, run_takeDeferred hK', ?_⟩⟩
    have hc5 := cell_kept hc' (grownBy_putObj' _ D (.deferred none)) (fun r e => by cases e; exact ⟨_, hK', rfl⟩)
    refine ⟨_, by simp [results, Try.results6, go_sem, hc5], rfl, hB'.trans (belowK_b (w := w) (Nat.le_refl _) _ D _ _ (by omega) hK' rfl rfl)⟩
  case stop =>
    rintro D c pre W _ _ h _
    exact h.elim

theorem nobody_any (i x : Int) (w : World) : Calls Try.prog 6 #[.int .i64 i, .int .i64 x] w fun r w' => r = .returned (.bool true) ∧ Below w.heap.size w w' :=
  callsIn_wide.1 (nobody_in i x w)
end Go.Proofs.Ytgjgcobkppmafaa
