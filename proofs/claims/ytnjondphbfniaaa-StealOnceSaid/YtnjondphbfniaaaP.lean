/- The document's row is made (package pinfoldref28: New). No condition. -/
import Derived.Test.YtnjondphbfniaaaO
import Derived.Deep.RegionWith
import Derived.IntWalk
namespace Go.Proofs.Ytnjondphbfniaaa
open Go.RowKit Go.Deep

theorem cut_any (n f t : Int) (h : f ≤ t) (w : World) : Calls Try.prog 16 #[.int .i64 n, .int .i64 f, .int .i64 t] w fun r w' => r = .returned (.int .i64 (max f (min n t))) ∧ w = w' := by
  by_cases h1 : n < f
  · have e : max f (min n t) = f := by omega
    rw [e]
    clear e
    go_enter Try.func16, Try.ntmps16
    go_wp2
    go_ret
    exact ⟨rfl, rfl⟩
  by_cases h2 : t < n
  · have e : max f (min n t) = t := by omega
    rw [e]
    clear e
    go_enter Try.func16, Try.ntmps16
    go_wp2
    go_ret
    exact ⟨rfl, rfl⟩
  · have e : max f (min n t) = n := by omega
    rw [e]
    clear e
    go_enter Try.func16, Try.ntmps16
    go_wp2
    go_ret
    exact ⟨rfl, rfl⟩

def RMade (w : World) (r : Dq) (e : Ending) (w' : World) : Prop := ∃ rb sb qb rn cs cq, e = .returned (.pointer (some ⟨rb, 0, none⟩)) ∧ w.heap.size ≤ rb ∧ w.heap.size ≤ sb ∧ w.heap.size ≤ qb ∧ IsRf w' rb sb qb rn cs cq r ∧ Below w.heap.size w w'

theorem rf_made {w W : World} (rm : Int) (rn n sb qb rb : Nat) (hr : rm = rn) (h1 : W.heap[sb]? = some (.cells (madeCells #[.int .i64 0] rn) 3)) (h2 : W.heap[qb]? = some (.cells (madeCells nobody (n * 6)) 38))
    (h3 : W.heap[rb]? = some (.cells #[.int .i64 0, .int .i64 0, .int .i64 rm, .slice (some ⟨sb, 0, none⟩) rn rn, .slice (some ⟨qb, 0, none⟩) n n] 35)) (ha : rb ≠ sb ∧ rb ≠ qb ∧ sb ≠ qb) (hl : w.heap.size ≤ rb ∧ w.heap.size ≤ sb ∧ w.heap.size ≤ qb) (hB : Below w.heap.size w W) :
    RMade w ⟨0, 0, rm, fun _ => 0, fun _ => Pt.none, n⟩ (.returned (.pointer (some ⟨rb, 0, none⟩))) W := by
  refine ⟨rb, sb, qb, rn, rn, n, rfl, hl.1, hl.2.1, hl.2.2, ⟨⟨_, h3, by simp, fun o ho => ?_⟩, ⟨_, h1, by rw [size_madeCells]; exact Nat.le_refl _, fun o ho => made1 rn o ho⟩, ⟨_, h2, by rw [size_madeCells]; exact Nat.le_refl _, fun o ho => made6 n o ho⟩, hr, ha⟩, hB⟩
  match o, ho with
  | 0, _ => rfl
  | 1, _ => rfl
  | 2, _ => rfl
  | 3, _ => rfl
  | 4, _ => rfl

theorem heap_at (w : World) (o : Obj) (k : Nat) (h : k = w.heap.size) : (w.alloc o).heap[k]? = some o := by subst h; exact heap_alloc_new w o
theorem heap_past (w : World) (o x : Obj) (k : Nat) (h : w.heap[k]? = some x) : (w.alloc o).heap[k]? = some x := (Below.heap_alloc _ _ _ (Array.getElem?_eq_some_iff.1 h).1).trans h

set_option maxRecDepth 100000 in
set_option maxHeartbeats 2000000 in
theorem RNew_any (room thieves : Int) (w : World) (h0 : -9223372036854775808 ≤ room) (h1 : room ≤ 9223372036854775807) (h2 : -9223372036854775808 ≤ thieves) (h3 : thieves ≤ 9223372036854775807) :
    Calls Try.prog 7 #[.int .i64 room, .int .i64 thieves] w fun r w' => RMade w (Dq.fresh room thieves) r w' := by
  have e : Dq.fresh room thieves = ⟨0, 0, max 1 (min room 64), fun _ => 0, fun _ => Pt.none, (1 + max 0 (min thieves 8)).toNat⟩ := rfl
  rw [e]
  clear e
  have C1 := Lib.hid (fun w => cut_any room 1 64 (by omega) w)
  have C2 := Lib.hid (fun w => cut_any thieves 0 8 (by omega) w)
  obtain ⟨rn, hrn⟩ : ∃ rn : Nat, max 1 (min room 64) = rn := ⟨(max 1 (min room 64)).toNat, by omega⟩
  obtain ⟨k, hk⟩ : ∃ k : Int, max 0 (min thieves 8) = k := ⟨_, rfl⟩
  have hk8 : 0 ≤ k ∧ k ≤ 8 := by omega
  have hrn64 : rn ≤ 64 := by omega
  rw [hrn] at C1
  rw [hk] at C2
  rw [hrn, hk]
  obtain ⟨n, hn⟩ : ∃ n : Nat, (1 + k).toNat = n := ⟨_, rfl⟩
  have hmk := fun w => mk38 (1 + k) n (by omega) (by omega) w
  have hmk3 := fun w => mk3 rn rn rfl hrn64 w
  rw [hn]
  clear hrn hk hn
  go_enter Try.func7, Try.ntmps7
  go_wp2_with fail
  refine (C1.out _).mono ?_
  rintro r w' ⟨rfl, rfl⟩
  go_wp2_with fail
  have hw1 : IntKind.i64.wrap (1 + k) = 1 + k := IntWalk.i64_in _ (by omega)
  go_region_with (go_at_call 16; refine (C2.out _).mono ?_; rintro r w' ⟨rfl, rfl⟩)
  all_goals
    go_wp2_with fail
    go_ret
    have hB : ∀ a b c : Obj, Below w.heap.size w (((w.alloc a).alloc b).alloc c) := fun a b c => (((Below.refl _ _).alloc (Nat.le_refl _) _).alloc (by simp) _).alloc (by simp; omega) _
    first
      | exact rf_made (w := w) rn rn n w.heap.size (w.heap.size + 1) (w.heap.size + 1 + 1) rfl (heap_past _ _ _ _ (heap_past _ _ _ _ (heap_at _ _ _ rfl))) (heap_past _ _ _ _ (heap_at _ _ _ (by simp))) (heap_at _ _ _ (by simp)) ⟨by omega, by omega, by omega⟩ ⟨by omega, by omega, by omega⟩ ((hB _ _ _).drew)
      | exact rf_made (w := w) rn rn n (w.heap.size + 1) w.heap.size (w.heap.size + 1 + 1) rfl (heap_past _ _ _ _ (heap_at _ _ _ (by simp))) (heap_past _ _ _ _ (heap_past _ _ _ _ (heap_at _ _ _ rfl))) (heap_at _ _ _ (by simp)) ⟨by omega, by omega, by omega⟩ ⟨by omega, by omega, by omega⟩ ((hB _ _ _).drew)
end Go.Proofs.Ytnjondphbfniaaa
