/- Sets of workers (package cpuset): Put, Range, And. No condition. -/
import Derived.Test.YtmbdhpibkhgkcaaA
import Derived.Laws.CopyOwn
namespace Go.Proofs.Ytmbdhpibkhgkcaa
open Go.RowKit

theorem CIs_in (n : Nat) (h : n < 1024) (w : World) : Calls Try.prog 43 #[.int .i64 n] w fun r w' => r = .returned (.bool true) ∧ w = w' := by
  have h2 : (n : Int) < 1024 := by omega
  go_enter Try.func43, Try.ntmps43
  go_wp2_with fail
  go_ret
  exact ⟨rfl, rfl⟩

/-- A set in a block of its own. -/
def WsAt (w : World) (A : Nat) (s : Ws) : Prop := w.heap[A]? = some (.cells (wsArr s) 29 (0, 0))
theorem WsAt.lt {w : World} {A : Nat} {s : Ws} (h : WsAt w A s) : A < w.heap.size := (Array.getElem?_eq_some_iff.1 h).1
theorem WsAt.cell {w : World} {A : Nat} {s : Ws} (h : WsAt w A s) {o : Nat} (ho : o < 16) : w.cell? ⟨A, o, none⟩ = some (.int .u64 (s o)) := cell_of h (wsArr_at s ho)
theorem WsAt.frozen {w : World} {A : Nat} {s : Ws} (h : WsAt w A s) (o : Nat) : w.frozen? ⟨A, o, none⟩ = false := by simp [World.frozen?, show w.heap[A]? = _ from h]
theorem WsAt.set {w : World} {A : Nat} {s : Ws} (h : WsAt w A s) (i : Nat) (x : Int) : WsAt (w.setCell ⟨A, i, none⟩ (.int .u64 x)) A (setw s i x) := by
  unfold WsAt
  rw [heap_setCell_same w A i (wsArr s) 29 (.int .u64 x) h, wsArr_set]
theorem WsAt.below {w w' : World} {A : Nat} {s : Ws} (h : WsAt w A s) (hb : Below w.heap.size w w') : WsAt w' A s := (hb.block A h.lt).trans h

def putW (s : Ws) (n : Nat) : Ws := setw s (n / 64) (bits .or .u64 (s (n / 64)) (IntKind.u64.wrap (2 ^ (n % 64))))

set_option maxRecDepth 100000 in
theorem Put_in (s : Ws) (n : Nat) (h : n < 1024) (w : World) : Calls Try.prog 41 #[wsV s, .int .i64 n] w fun r w' => r = .returned (wsV (putW s n)) ∧ Below w.heap.size w w' := by
  have hz := zero29
  have z1 := size29 ws0
  have s1 := size29 (putW s n)
  have s2 := one29 (putW s n)
  have z3 : (wsArr ws0).size = (wsArr (putW s n)).size := by rw [wsArr_size, wsArr_size]
  have HI := Lib.hid (fun w => CIs_in n h w)
  have HW0 := Lib.hid (show WsAt ((w.alloc (.cells (wsArr s) 29)).alloc (.cells (wsArr ws0) 29)) w.heap.size s by
    unfold WsAt
    rw [heap_alloc_old _ _ (by simp)]
    exact heap_alloc_new _ _)
  have HB0 := Lib.hid (((Below.refl w.heap.size w).alloc (Nat.le_refl _) (.cells (wsArr s) 29)).alloc (by simp) (.cells (wsArr ws0) 29))
  have HN0 := Lib.hid (heap_alloc_new (w.alloc (.cells (wsArr s) 29)) (.cells (wsArr ws0) 29))
  unfold wsV
  obtain ⟨S, hS⟩ : ∃ S, S = wsArr s := ⟨_, rfl⟩
  obtain ⟨Z, hZ⟩ : ∃ Z, Z = wsArr ws0 := ⟨_, rfl⟩
  obtain ⟨T, hT⟩ : ∃ T, T = wsArr (putW s n) := ⟨_, rfl⟩
  rw [← hS, ← hZ] at HW0 HB0 HN0
  simp only [← hZ] at hz z1 z3
  rw [← hT] at s1 s2 z3
  rw [← hS, ← hT]
  have HT := Lib.hid hT
  clear hS hZ hT
  go_enter Try.func41, Try.ntmps41
  go_upto_region 1 with fail
  obtain ⟨W1, hW1⟩ : ∃ W1, (w.alloc (.cells S 29)).alloc (.cells Z 29) = W1 := ⟨_, rfl⟩
  obtain ⟨A, hA⟩ : ∃ A, w.heap.size = A := ⟨_, rfl⟩
  have hne : A + 1 ≠ A := by omega
  have HW1 := Lib.hid (show WsAt W1 A s by rw [← hW1, ← hA]; exact HW0.out)
  have HB1 := Lib.hid (show Below w.heap.size w W1 by rw [← hW1]; exact HB0.out)
  have HN1 := Lib.hid (show W1.heap[A + 1]? = some (.cells Z 29 (0, 0)) by
    have := HN0.out
    rw [World.size_alloc] at this
    rw [← hW1, ← hA]
    exact this)
  have HAA := Lib.hid (show w.heap.size ≤ A by omega)
  rw [hW1, hA]
  clear hW1 hA HW0 HB0 HN0
  go_wp2_with fail
  refine (HI.out _).mono ?_
  rintro r w' ⟨rfl, rfl⟩
  clear HI
  have hk : n / 64 < 16 := by omega
  have hm : n % 64 < 64 := by omega
  have hq : (n : Int) / 64 = ((n / 64 : Nat) : Int) := by omega
  have hr : (n : Int) % 64 = ((n % 64 : Nat) : Int) := by omega
  have hp : putW s n = setw s (n / 64) (bits .or .u64 (s (n / 64)) (IntKind.u64.wrap (2 ^ (n % 64)))) := rfl
  have HP := Lib.hid hp
  have c1 := HW1.out.cell hk
  have f1 := HW1.out.frozen (n / 64)
  generalize n / 64 = k at *
  generalize n % 64 = m at *
  go_wp2_with fail
  go_region
  generalize hx : bits .or .u64 (s k) (IntKind.u64.wrap (2 ^ m)) = x at *
  obtain ⟨W2, hW2⟩ : ∃ W2, (W1.setCell ⟨A, k, none⟩ (.int .u64 x)).drew = W2 := ⟨_, rfl⟩
  have HW2 := Lib.hid (show W2.heap[A]? = some (.cells T 29 (0, 0)) by
    rw [← hW2, HT.out, HP.out]
    exact HW1.out.set k x)
  have HN2 := Lib.hid (show W2.heap[A + 1]? = some (.cells Z 29 (0, 0)) by
    rw [← hW2]
    exact (heap_setCell_other W1 ⟨A, k, none⟩ (A + 1) _ hne).trans HN1.out)
  have HB2 := Lib.hid (show Below w.heap.size w W2 by rw [← hW2]; exact (HB1.out.setCell (p := ⟨A, k, none⟩) HAA.out _).drew)
  rw [hW2]
  clear hW2 HW1 HN1 HB1 hx hp c1 f1
  go_wp2_with (first | (refine wpList_load_row rfl 29 _ rfl A rfl 29 T (0, 0) _ HW2.out Try.underlying29 rfl s1 ?_) | (refine wpList_store_row rfl 29 _ _ rfl (A + 1) T rfl rfl 29 Z HN2.out s1 z3 s2 ?_))
  refine bodyPost_ret (results_c1 rfl _ _ (A + 1) 29 T _ rfl ?_ Try.underlying29 rfl s1) rfl ⟨rfl, HB2.out.trans ?_⟩
  · exact setRow_heap W2 (A + 1) Z T 29 (0, 0) HN2.out
  · exact below_setRow (Below.refl _ _) (Nat.le_trans HAA.out (Nat.le_succ _)) _

/-- The workers from 0 on. -/
def rangeW : Nat → Ws
  | 0 => ws0
  | k + 1 => putW (rangeW k) k

set_option maxRecDepth 100000 in
set_option maxHeartbeats 1000000 in
theorem Range_all (w : World) : Calls Try.prog 28 #[.int .i64 0, .int .i64 1023] w fun r w' => r = .returned (wsV (rangeW 1024)) ∧ Below w.heap.size w w' := by
  have hz := zero29
  have HP := Lib.hid (fun (k : Nat) (hk : k < 1024) (w : World) => Put_in (rangeW k) k hk w)
  unfold wsV
  unfold wsV at HP
  have HA0 := Lib.hid (show WsAt (w.alloc (.cells (wsArr ws0) 29)) w.heap.size (rangeW 0) from heap_alloc_new _ _)
  have HB0 := Lib.hid ((Below.refl w.heap.size w).alloc (Nat.le_refl _) (.cells (wsArr ws0) 29))
  obtain ⟨Z, hZ⟩ : ∃ Z, Z = wsArr ws0 := ⟨_, rfl⟩
  simp only [← hZ] at hz
  rw [← hZ] at HA0 HB0
  clear hZ
  obtain ⟨w1, hw1⟩ : ∃ w1, w.alloc (.cells Z 29) = w1 := ⟨_, rfl⟩
  obtain ⟨A, hA⟩ : ∃ A, w.heap.size = A := ⟨_, rfl⟩
  have HAA := Lib.hid (show w.heap.size ≤ A by omega)
  go_enter Try.func28, Try.ntmps28
  go_upto_region 1 with fail
  rw [hw1, hA] at HA0
  rw [hw1] at HB0
  clear hw1 hA hz
  go_wp2_with fail
  go_loopw [5] (fun s wr => ∃ k : Nat, k ≤ 1024 ∧ s = .int .i64 k ∧ WsAt wr A (rangeW k) ∧ Below w.heap.size w wr) (fun s _ => 1024 - (intOf s).toNat)
  case atStart => exact ⟨0, Nat.zero_le _, rfl, HA0.out, HB0.out⟩
  case round =>
    clear HA0 HB0
    obtain ⟨k, hk, rfl, hA, hB⟩ := hrel
    have HA := Lib.hid hA
    have HB := Lib.hid hB
    clear hA hB
    by_cases hlt : k < 1024
    · have h1 : (k : Int) ≤ 1023 := by omega
      have HPK := Lib.hid (HP.out k hlt)
      have s0 := size29 (rangeW k)
      have s1 := size29 (rangeW (k + 1))
      have s2 := one29 (rangeW (k + 1))
      have s3 : (wsArr (rangeW k)).size = (wsArr (rangeW (k + 1))).size := by rw [wsArr_size, wsArr_size]
      have HA1 := Lib.hid (show wr.heap[A]? = some (.cells (wsArr (rangeW k)) 29 (0, 0)) from HA.out)
      have HFIN := Lib.hid (fun (w2 : World) (T : Array Value) (hT : T = wsArr (rangeW (k + 1))) (h : w2.heap[A]? = some (.cells (wsArr (rangeW k)) 29 (0, 0))) => show WsAt (w2.setRow A T) A (rangeW (k + 1)) by unfold WsAt; rw [hT] at *; exact setRow_heap w2 A _ _ 29 (0, 0) h)
      rw [show putW (rangeW k) k = rangeW (k + 1) from rfl] at HPK
      obtain ⟨S, hS⟩ : ∃ S, wsArr (rangeW k) = S := ⟨_, rfl⟩
      obtain ⟨T, hT⟩ : ∃ T, wsArr (rangeW (k + 1)) = T := ⟨_, rfl⟩
      rw [hS] at HPK s0 s3 HA1 HFIN
      rw [hT] at HPK s1 s2 s3
      have HTT := Lib.hid hT
      clear hS hT HP
      go_wp2_with (refine wpList_load_row rfl 29 _ rfl A rfl 29 S (0, 0) _ HA1.out Try.underlying29 rfl s0 ?_)
      refine (HPK.out _).mono ?_
      rintro r w2 ⟨rfl, hb⟩
      have HA2 := Lib.hid ((hb.block A HA.out.lt).trans HA1.out)
      have HB2 := Lib.hid (HB.out.trans (hb.mono HB.out.size))
      clear hb HPK HA HA1 HB
      go_wp2_with (refine wpList_store_row rfl 29 _ _ rfl A T rfl rfl 29 S HA2.out s1 s3 s2 ?_)
      go_roundw
      case rel => exact ⟨k + 1, by omega, by go_num, HFIN.out _ _ HTT.out.symm HA2.out, below_setRow HB2.out HAA.out _⟩
      case measure => simp [intOf]; omega
    · obtain rfl : k = 1024 := by omega
      clear hlt
      have s0 := size29 (rangeW 1024)
      have s2 := one29 (rangeW 1024)
      unfold WsAt at HA
      obtain ⟨S, hS⟩ : ∃ S, wsArr (rangeW 1024) = S := ⟨_, rfl⟩
      rw [hS] at HA s0 s2
      have HSE := Lib.hid hS
      clear hS
      go_wp2_with (first | (refine wpList_load_row rfl 29 _ rfl A rfl 29 S (0, 0) _ HA.out Try.underlying29 rfl s0 ?_) | (refine wpList_store_row rfl 29 _ _ rfl A S rfl rfl 29 S HA.out s0 rfl s2 ?_))
      exact bodyPost_ret (results_c1 rfl _ _ A 29 S _ rfl (setRow_heap _ A S S 29 (0, 0) HA.out) Try.underlying29 rfl s0) rfl ⟨by rw [HSE.out], below_setRow HB.out HAA.out _⟩

theorem or_next : ∀ m, m < 64 → bits .or .u64 (2 ^ m - 1) (IntKind.u64.wrap (2 ^ m)) = 2 ^ (m + 1) - 1 := by decide +kernel

theorem rangeW_at : ∀ (k : Nat), k ≤ 1024 → ∀ o, rangeW k o = if (o + 1) * 64 ≤ k then 2 ^ 64 - 1 else if o * 64 ≤ k then 2 ^ (k - o * 64) - 1 else 0
  | 0, _, o => by
    show (0 : Int) = _
    by_cases h : o = 0
    · subst h; simp
    · rw [if_neg (by omega), if_neg (by omega)]
  | k + 1, hk, o => by
    show setw (rangeW k) (k / 64) (bits .or .u64 (rangeW k (k / 64)) (IntKind.u64.wrap (2 ^ (k % 64)))) o = _
    unfold setw
    by_cases e : o = k / 64
    · rw [if_pos e, rangeW_at k (by omega) (k / 64), if_neg (by omega), if_pos (by omega), show k - k / 64 * 64 = k % 64 by omega, or_next (k % 64) (by omega)]
      by_cases h1 : (o + 1) * 64 ≤ k + 1
      · rw [if_pos h1, show k % 64 + 1 = 64 by omega]
      · rw [if_neg h1, if_pos (by omega), show k + 1 - o * 64 = k % 64 + 1 by omega]
    · rw [if_neg e, rangeW_at k (by omega) o]
      by_cases h1 : (o + 1) * 64 ≤ k
      · rw [if_pos h1, if_pos (by omega)]
      · rw [if_neg h1, if_neg (by omega)]
        by_cases h2 : o * 64 ≤ k
        · omega
        · have h4 : ¬ (o + 1) * 64 ≤ k + 1 := by omega
          by_cases h3 : o * 64 ≤ k + 1
          · simp only [h2, h3, h4, if_true, if_false, show k + 1 - o * 64 = 0 by omega]; rfl
          · simp only [h2, h3, h4, if_false]

/-- All workers. -/
def wsAll : Ws := fun _ => 2 ^ 64 - 1
theorem range_all : wsArr (rangeW 1024) = wsArr wsAll := wsArr_congr fun o ho => by
  rw [rangeW_at 1024 (Nat.le_refl _), if_pos (by omega)]
  rfl
end Go.Proofs.Ytmbdhpibkhgkcaa
