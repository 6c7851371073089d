/- A part of the proof that fair.Window is one more than the greatest of its gaps (contracts of the functions of package fair). No condition. -/
import Derived.Test.YtnldnhmkljfodaaD
import Derived.Maps.AppendAt
namespace Go.Proofs.Ytnldnhmkljfodaa
open Go.RowKit

/-- How many are made. -/
def cutN (n : Int) : Nat := (max 0 (min n 4096)).toNat

theorem cut_any (n : Int) (w : World) (h0 : -9223372036854775808 ≤ n) (h1 : n ≤ 9223372036854775807) :
    Calls Try.prog 12 #[.int .i64 n] w fun r w' => r = .returned (.int .i64 (cutN n : Nat)) ∧ w = w' := by
  have hc : ((cutN n : Nat) : Int) = max 0 (min n 4096) := by unfold cutN; omega
  rw [hc]
  clear hc
  by_cases ha : n < 0
  · go_enter Try.func12, Try.ntmps12
    go_wp2
    all_goals go_ret
    all_goals exact ⟨by go_num, rfl⟩
  · by_cases hb : 4096 < n
    · go_enter Try.func12, Try.ntmps12
      go_wp2
      all_goals go_ret
      all_goals exact ⟨by go_num, rfl⟩
    · go_enter Try.func12, Try.ntmps12
      go_wp2
      all_goals go_ret
      all_goals exact ⟨by go_num, rfl⟩

theorem Try.info31 : (Try.prog.info? 31).map (fun i => (i.zero, i.size, i.bytes)) = some (some (.agg #[.int .i64 0, .int .i64 0, .int .i64 0, .int .i64 0, .int .u64 0]), 5, 40) := by kernel_rfl

theorem cells_new (w : World) (cs : List Value) (t : TypeId) : ∀ j u, cs[j]? = some u → (w.alloc (.cells cs.toArray t)).cell? ((⟨w.heap.size, 0, none⟩ : Addr).add j) = some u := by
  intro j u hj
  have : (⟨w.heap.size, 0, none⟩ : Addr).add j = ⟨w.heap.size, j, none⟩ := by unfold Addr.add; split <;> simp_all
  rw [this]
  simp [hj]

/-- The cells of a row of entries. -/
def rowCells (e : Nat → E) (n : Nat) : List Value := (List.range n).flatMap fun k => [.int .i64 (e k).k, .int .i64 (e k).a, .int .i64 (e k).b, .int .i64 (e k).c, .int .u64 (e k).d]

theorem rowCells_succ (e : Nat → E) (n : Nat) : rowCells e (n + 1) = rowCells e n ++ [.int .i64 (e n).k, .int .i64 (e n).a, .int .i64 (e n).b, .int .i64 (e n).c, .int .u64 (e n).d] := by
  simp [rowCells, List.range_succ]

theorem rowCells_length (e : Nat → E) (n : Nat) : (rowCells e n).length = n * 5 := by
  induction n with
  | zero => simp [rowCells]
  | succ n ih => rw [rowCells_succ, List.length_append, ih]; simp; omega

theorem rowCells_at (e : Nat → E) : ∀ (n k j : Nat), k < n → j < 5 → (rowCells e n)[k * 5 + j]? = ([.int .i64 (e k).k, .int .i64 (e k).a, .int .i64 (e k).b, .int .i64 (e k).c, .int .u64 (e k).d] : List Value)[j]? := by
  intro n
  induction n with
  | zero => intro k j hk; omega
  | succ n ih =>
    intro k j hk hj
    rw [rowCells_succ]
    by_cases h : k < n
    · rw [List.getElem?_append_left (by rw [rowCells_length]; omega)]
      exact ih k j h hj
    · obtain rfl : k = n := by omega
      rw [List.getElem?_append_right (by rw [rowCells_length]; omega), rowCells_length]
      congr 1
      omega

theorem ents_of_row {w : World} {base : Nat} {v : Value} {n : Nat} {e : Nat → E} (hn : n * 40 ≤ 140737488351232) (h : w.ownsRow base 31 5 v n (rowCells e n)) :
    ∃ a cap, v = .slice a n cap ∧ Ents w.heap.size w a n e := by
  rcases h.2 with ⟨rfl, rfl⟩ | ⟨g, cap, cur, rfl, hb, hg, _⟩
  · exact ⟨none, 0, rfl, hn, .inl rfl⟩
  · refine ⟨_, cap, rfl, hn, .inr ⟨g, 0, rfl, (Array.getElem?_eq_some_iff.1 hg).1, ?_⟩⟩
    intro k hk
    have hat : ∀ j, j < 5 → w.cell? ⟨g, 0 + k * 5 + j, none⟩ = ([.int .i64 (e k).k, .int .i64 (e k).a, .int .i64 (e k).b, .int .i64 (e k).c, .int .u64 (e k).d] : List Value)[j]? := by
      intro j hj
      rw [Nat.zero_add, World.ownsRow.cellAt h (k * 5 + j) (by omega), rowCells_at e n k j hk hj]
    exact ⟨hat 0 (by omega), hat 1 (by omega), hat 2 (by omega), hat 3 (by omega), hat 4 (by omega)⟩

/-- A step of a worker, with draw 0. -/
def stepE (a : Int) : E := ⟨1, a, 0, 0, 0⟩

set_option maxHeartbeats 2000000 in
set_option maxRecDepth 100000 in
theorem round_any (ac : Option Addr) (lc cc : Nat) (c : Nat → Int) (n : Int) (w : World) (h0 : -9223372036854775808 ≤ n) (h1 : n ≤ 9223372036854775807) (hl : 0 < lc) (hC : Ints w.heap.size w ac lc c) :
    Calls Try.prog 8 #[.slice ac lc cc, .int .i64 n] w fun r w' => ∃ v, r = .returned v ∧ w'.ownsRow w.heap.size 31 5 v (cutN n) (rowCells (fun i => stepE (c (i % lc))) (cutN n)) ∧ Below w.heap.size w w' := by
  obtain ⟨hreach, hC⟩ := hC
  rcases hC with h | ⟨b, off, rfl, hb, hc⟩
  · omega
  have hcut : cutN n ≤ 4096 := by unfold cutN; omega
  have hne : ((lc : Int) == 0) = false := by simp; omega
  obtain ⟨i0, hi, hz0, hz1, hz2⟩ := info_parts Try.info31
  go_enter Try.func8, Try.ntmps8
  go_wp2_with (go_at_call 12; refine (cut_any n _ h0 h1).mono ?_; rintro r w' ⟨rfl, rfl⟩)
  go_loopw [4, 11] (fun v i wr => ∃ k : Nat, k ≤ cutN n ∧ i = .int .i64 k ∧ wr.ownsRow w.heap.size 31 5 v k (rowCells (fun i => stepE (c (i % lc))) k) ∧ Below w.heap.size w wr) (fun _ i _ => cutN n - (intOf i).toNat)
  case atStart => exact ⟨0, Nat.zero_le _, rfl, by simpa [rowCells] using World.ownsRow_nil _ _ _ _, Below.refl _ _⟩
  case round =>
    obtain ⟨k, hk, rfl, hown, hB⟩ := hrel
    by_cases hlt : k < cutN n
    · have hmod : k % lc < lc := Nat.mod_lt _ hl
      have hck := (hB.cell (p := ⟨b, off + k % lc, none⟩) hb).trans (hc _ hmod)
      have hs := hB.size
      have Hs := Lib.hid (rowCells_succ (fun i => stepE (c (i % lc))) k)
      go_wp2_with (at_builtin; refine wpList_append_own _ rfl _ _ 22 rfl w.heap.size 31 i0 _ 5 40 Try.underlying22 hi hz0 hz1 hz2 rfl (by decide) _ _ _ rfl (hown.alloc _) ⟨wr.heap.size, 0, none⟩ 1 1 [.int .i64 1, .int .i64 (c (k % lc)), .int .i64 0, .int .i64 0, .int .u64 0] rfl rfl (cells_new _ _ _) (by simp [Value.oneCell']) (by simp only [maxLen]; omega) (by omega) (by simp; omega) ?_; intro v' w1 hown' hgrow _)
      have hown2 : w1.ownsRow w.heap.size 31 5 v' (k + 1) (rowCells (fun i => stepE (c (i % lc))) (k + 1)) := by rw [Hs.out]; exact hown'
      exact ⟨⟨k + 1, by omega, by go_num, hown2, (hB.alloc hs _).grown hgrow (by simp; omega) (fun j hj => (hown.lt j hj).1)⟩, by simp [intOf]; omega⟩
    · obtain rfl : k = cutN n := by omega
      go_wp2_with fail
      go_ret
      exact ⟨_, rfl, hown, hB⟩
end Go.Proofs.Ytnldnhmkljfodaa
