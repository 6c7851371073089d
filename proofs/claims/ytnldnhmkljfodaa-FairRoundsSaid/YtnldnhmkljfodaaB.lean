/- A part of the proof that fair.Window is one more than the greatest of its gaps (contracts of the functions of package fair). No condition. -/
import Derived.RangeFuncNested
import Derived.RangeFuncBound
import Derived.RangeFuncCalls
import Derived.RangeFuncLeaves
import Derived.Shelf.Abstract
import Derived.Shelf.RegionOpen
import Derived.OwnWalkIn
import Derived.TacticsInMore
import Derived.LoopNIn
import Derived.LoopIn
import Derived.Lib.Hide
import Derived.Outline
import Derived.Test.YtnldnhmkljfodaaA
namespace Go.Proofs.Ytnldnhmkljfodaa
open Go.RowKit Go.Shelf

attribute [local go_sem] Oper.semAt_some

/-- What the iterator tells: how many there are ahead of each step, and behind the last one. -/
def gapsGo : List Bool → Nat → List Nat
  | [], n => [n]
  | true :: r, n => n :: gapsGo r 0
  | false :: r, n => gapsGo r (n + 1)

def steps (e : Nat → E) (len : Nat) (cpu : Int) : List Bool := (List.range len).map fun k => isB (e k) cpu

theorem steps_drop (e : Nat → E) (len : Nat) (cpu : Int) (k : Nat) (h : k < len) :
    (steps e len cpu).drop k = isB (e k) cpu :: (steps e len cpu).drop (k + 1) := by
  rw [List.drop_eq_getElem_cons (by simpa [steps] using h)]
  simp [steps]

/-- The cells of a slice of entries. -/
def Cells (w : World) (b off len : Nat) (e : Nat → E) : Prop :=
  ∀ k, k < len → w.cell? ⟨b, off + k * 5, none⟩ = some (.int .i64 (e k).k) ∧ w.cell? ⟨b, off + k * 5 + 1, none⟩ = some (.int .i64 (e k).a) ∧
    w.cell? ⟨b, off + k * 5 + 2, none⟩ = some (.int .i64 (e k).b) ∧ w.cell? ⟨b, off + k * 5 + 3, none⟩ = some (.int .i64 (e k).c) ∧ w.cell? ⟨b, off + k * 5 + 4, none⟩ = some (.int .u64 (e k).d)

theorem Cells.of_block {w w' : World} {b off len : Nat} {e : Nat → E} (h : w'.heap[b]? = w.heap[b]?) (hc : Cells w b off len e) : Cells w' b off len e := by
  intro k hk
  obtain ⟨h0, h1, h2, h3, h4⟩ := hc k hk
  exact ⟨(World.cell?_of_block (w := w) h).trans h0, (World.cell?_of_block (w := w) h).trans h1, (World.cell?_of_block (w := w) h).trans h2, (World.cell?_of_block (w := w) h).trans h3, (World.cell?_of_block (w := w) h).trans h4⟩

theorem Cells.below {n₀ : Nat} {w w' : World} {b off len : Nat} {e : Nat → E} (hb : b < n₀) (h : Below n₀ w w') (hc : Cells w b off len e) : Cells w' b off len e :=
  hc.of_block (h.block b hb)

/-- The blocks of S lie as they lay. -/
def Same (S : Nat → Prop) (w w' : World) : Prop := w.heap.size ≤ w'.heap.size ∧ ∀ k, S k → w'.heap[k]? = w.heap[k]?

theorem Same.refl (S : Nat → Prop) (w : World) : Same S w w := ⟨Nat.le_refl _, fun _ _ => rfl⟩
theorem Same.trans {S : Nat → Prop} {a b c : World} (h : Same S a b) (k : Same S b c) : Same S a c := ⟨Nat.le_trans h.1 k.1, fun i hi => (k.2 i hi).trans (h.2 i hi)⟩
theorem Same.alloc {S : Nat → Prop} {a b : World} (h : Same S a b) (hS : ∀ k, S k → k < b.heap.size) (o : Obj) : Same S a (b.alloc o) :=
  h.trans ⟨by simp, fun k hk => Below.heap_alloc _ _ _ (hS k hk)⟩
theorem Same.cell {S : Nat → Prop} {w w' : World} (h : Same S w w') {p : Addr} (hp : S p.block) : w'.cell? p = w.cell? p := World.cell?_of_block (w := w) (h.2 p.block hp)

set_option maxRecDepth 100000 in
set_option maxHeartbeats 2000000 in
theorem gaps1_in (n l Bs Bc b off len cap : Nat) (cpu : Int) (e : Nat → E) (hn : 1 ≤ n) (hreach : len * 40 ≤ 140737488351232) (S : Nat → Prop) (hb : S b) (hBc : S Bc) (J Jx : List Nat → World → Prop)
    (hY : ∀ pre x W, J pre W → pre.length < len + 1 → YieldAt Fence.wide (n - 1) Try.prog l #[.int .i64 (x : Nat)] W fun r W' =>
      (r = .returned (.bool true) ∧ J (pre ++ [x]) W' ∧ Same S W W') ∨ (r = .returned (.bool false) ∧ Jx (pre ++ [x]) W'))
    (W : World) (hS : ∀ k, S k → k < W.heap.size) (hJ : AbidesFrom W.heap.size J) (hBs : W.cell? ⟨Bs, 0, none⟩ = some (.slice (some ⟨b, off, none⟩) len cap)) (hBcc : W.cell? ⟨Bc, 0, none⟩ = some (.int .i64 cpu)) (hc : Cells W b off len e) (h0 : J [] W) :
    CallsIn Fence.wide n Try.prog 16 #[.func (.yield l) #[] #[], .pointer (some ⟨Bs, 0, none⟩), .pointer (some ⟨Bc, 0, none⟩)] W fun r W' => (∃ v, r = .returned v) ∧
      ((∃ ys, ys = gapsGo (steps e len cpu) 0 ∧ J ys W') ∨ (∃ pre, Jx pre W')) := by
  refine callsIn_of_wp Try.func16 rfl trivial ?_ rfl
  simp only [Try.ntmps16, List.size_toArray, List.length_cons, List.length_nil, Nat.reduceAdd, Nat.reduceSub, Array.replicate_succ, Array.replicate_zero, List.push_toArray, List.append_toArray, List.nil_append, List.cons_append]
  gi_wp2
  gi_loopw [4, 9] (fun v i wr => ∃ (k m : Nat) (pre : List Nat), k ≤ len ∧ m ≤ k ∧ pre.length ≤ k ∧ i = .int .i64 k ∧ v = .int .i64 m ∧ pre ++ gapsGo ((steps e len cpu).drop k) m = gapsGo (steps e len cpu) 0 ∧ J pre wr ∧ Same S W wr ∧ W.heap.size ≤ wr.heap.size)
    (fun _ i _ => len - (intOf i).toNat)
  case atStart => exact ⟨0, 0, [], Nat.zero_le _, Nat.le_refl _, Nat.le_refl _, rfl, rfl, rfl, h0, Same.refl _ _, Nat.le_refl _⟩
  case round =>
    obtain ⟨k, m, pre, hk, hm, hp, rfl, rfl, hgo, hJs, hnx, hsz⟩ := hrel
    by_cases hlt : k < len
    · obtain ⟨c0, c1, c2, c3, c4⟩ := (hc.of_block (hnx.2 _ hb)) k hlt
      have cc : wr.cell? ⟨Bc, 0, none⟩ = some (.int .i64 cpu) := (hnx.cell (p := ⟨Bc, 0, none⟩) hBc).trans hBcc
      have hd := steps_drop e len cpu k hlt
      have HD := Lib.hid hd
      have HG := Lib.hid hgo
      clear hd hgo
      have hBl : Bc < wr.heap.size := by have := hS _ hBc; omega
      have hSr : ∀ k, S k → k < wr.heap.size := fun k hk => by have := hS k hk; omega
      obtain ⟨W2, hW2⟩ : ∃ W2, W2 = (wr.alloc (.cells #[.int .i64 (e k).k, .int .i64 (e k).a, .int .i64 (e k).b, .int .i64 (e k).c, .int .u64 (e k).d] 31)).alloc (.cells #[.int .i64 (e k).k, .int .i64 (e k).a, .int .i64 (e k).b, .int .i64 (e k).c, .int .u64 (e k).d] 31) := ⟨_, rfl⟩
      have hB2 : Same S wr W2 := by rw [hW2]; exact ((Same.refl _ _).alloc hSr _).alloc (fun k hk => by have := hSr k hk; simp; omega) _
      clear hSr
      have hJ2 : J pre W2 := by rw [hW2]; exact hJ _ _ _ none (hJ _ _ _ none hJs (World.grownBy_alloc _ _ _) (fun r e => by cases e)) (World.grownBy_alloc _ _ _) (fun r e => by cases e)
      have hs2 : W.heap.size ≤ W2.heap.size := by have := hB2.1; omega
      cases hB : isB (e k) cpu with
      | true =>
        have HB := Lib.hid hB
        obtain ⟨fn, tmps, assign, body, hy, hR⟩ := hY pre m W2 hJ2 (by omega)
        have hy' := hy
        rw [hW2] at hy
        rw [hW2] at hR
        have HW := Lib.hid hW2
        clear hW2
        gi_wp2_with (refine ⟨trivial, ?_⟩; gi_at_call 17; refine (callsIn_wide.2 (is_any (e k) cpu _)).mono ?_; rintro r w' ⟨rfl, rfl⟩)
        refine hR.mono ?_
        rintro r W3 (⟨rfl, hJ3, hk3⟩ | ⟨rfl, hx3⟩)
        · have hsz3 := hk3.1
          gi_wp2
          go_roundw
          case rel =>
            refine ⟨k + 1, 0, pre ++ [m], by omega, by omega, by simp; omega, by go_num, rfl, ?_, hJ3, ?_, ?_⟩
            · rw [← HG.out, HD.out, hB]; simp [gapsGo]
            · rw [← HW.out] at hk3; exact hnx.trans (hB2.trans hk3)
            · rw [← HW.out] at hsz3; omega
          case measure => simp [intOf]; omega
        · gi_wp2
          refine bodyPost_ret (results_none rfl _ _ _) rfl ?_
          exact ⟨⟨_, rfl⟩, .inr ⟨_, hx3⟩⟩
      | false =>
        have HW := Lib.hid hW2
        clear hW2
        gi_wp2_with (refine ⟨trivial, ?_⟩; gi_at_call 17; refine (callsIn_wide.2 (is_any (e k) cpu _)).mono ?_; rintro r w' ⟨rfl, rfl⟩)
        go_roundw
        case rel =>
          refine ⟨k + 1, m + 1, pre, by omega, by omega, by omega, by go_num, by go_num, ?_, ?_, ?_, ?_⟩
          · rw [← HG.out, HD.out, hB]; simp [gapsGo]
          · have := HW.out; rw [this] at hJ2; exact hJ2
          · have := HW.out; rw [this] at hB2; exact hnx.trans hB2
          · have := HW.out; rw [this] at hs2; exact hs2
        case measure => simp [intOf]; omega
    · obtain rfl : k = len := by omega
      have hd : (steps e k cpu).drop k = [] := by simp [steps]
      have HG : pre ++ [m] = gapsGo (steps e k cpu) 0 := by rw [← hgo, hd]; rfl
      have HG' := Lib.hid HG
      clear hgo hd HG
      obtain ⟨fn, tmps, assign, body, hy, hR⟩ := hY pre m wr hJs (by omega)
      gi_wp2
      refine hR.mono ?_
      rintro r W3 (⟨rfl, hJ3, hk3⟩ | ⟨rfl, hx3⟩)
      · gi_wp2
        go_end0
        exact ⟨⟨_, rfl⟩, .inl ⟨_, HG'.out, hJ3⟩⟩
      · gi_wp2
        go_end0
        exact ⟨⟨_, rfl⟩, .inr ⟨_, hx3⟩⟩
end Go.Proofs.Ytnldnhmkljfodaa
