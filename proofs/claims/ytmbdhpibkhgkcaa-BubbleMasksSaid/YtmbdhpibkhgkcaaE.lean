/- Sets of workers: And (package cpuset), Has and Make (the document's, package pinfoldref01). No condition. -/
import Derived.Test.YtmbdhpibkhgkcaaD
namespace Go.Proofs.Ytmbdhpibkhgkcaa
open Go.RowKit

def andW (s t : Ws) : Ws := fun o => bits .and .u64 (s o) (t o)
def andK (s t : Ws) (k : Nat) : Ws := fun o => if o < k then bits .and .u64 (s o) (t o) else s o
theorem andK_next (s t : Ws) (k : Nat) : setw (andK s t k) k (bits .and .u64 (s k) (t k)) = andK s t (k + 1) := by
  funext o
  unfold setw andK
  by_cases e : o = k
  · subst e; rw [if_pos rfl, if_pos (by omega)]
  · rw [if_neg e]
    by_cases h : o < k
    · rw [if_pos h, if_pos (by omega)]
    · rw [if_neg h, if_neg (by omega)]

set_option maxRecDepth 100000 in
set_option maxHeartbeats 1000000 in
theorem And_any (s t : Ws) (w : World) : Calls Try.prog 29 #[wsV s, wsV t] w fun r w' => r = .returned (wsV (andW s t)) ∧ Below w.heap.size w w' := by
  have hz := zero29
  have z3 : (wsArr ws0).size = (wsArr (andW s t)).size := by rw [wsArr_size, wsArr_size]
  have s1 := size29 (andW s t)
  have s2 := one29 (andW s t)
  have HFIN := Lib.hid (show wsArr (andK s t 16) = wsArr (andW s t) from wsArr_congr fun o ho => by unfold andK andW; rw [if_pos ho])
  obtain ⟨W1, hW1⟩ : ∃ W1, ((w.alloc (.cells (wsArr s) 29)).alloc (.cells (wsArr t) 29)).alloc (.cells (wsArr ws0) 29) = W1 := ⟨_, rfl⟩
  obtain ⟨A, hA⟩ : ∃ A, w.heap.size = A := ⟨_, rfl⟩
  have HA1 := Lib.hid (show WsAt W1 A (andK s t 0) by
    unfold WsAt
    rw [← hW1, ← hA, heap_alloc_old _ _ (by simp; omega), heap_alloc_old _ _ (by simp)]
    exact heap_alloc_new _ _)
  have HT1 := Lib.hid (show WsAt W1 (A + 1) t by
    unfold WsAt
    rw [← hW1, ← hA, heap_alloc_old _ _ (by simp)]
    have := heap_alloc_new (w.alloc (.cells (wsArr s) 29)) (.cells (wsArr t) 29)
    rw [World.size_alloc] at this
    exact this)
  have HC1 := Lib.hid (show WsAt W1 (A + 2) ws0 by
    unfold WsAt
    rw [← hW1, ← hA]
    have := heap_alloc_new ((w.alloc (.cells (wsArr s) 29)).alloc (.cells (wsArr t) 29)) (.cells (wsArr ws0) 29)
    rw [World.size_alloc, World.size_alloc] at this
    exact this)
  have HB1 := Lib.hid (show Below w.heap.size w W1 by
    rw [← hW1]
    exact (((Below.refl w.heap.size w).alloc (Nat.le_refl _) _).alloc (by simp) _).alloc (by simp; omega) _)
  have HAA := Lib.hid (show w.heap.size ≤ A by omega)
  unfold wsV
  obtain ⟨S, hS⟩ : ∃ S, S = wsArr s := ⟨_, rfl⟩
  obtain ⟨T, hT⟩ : ∃ T, T = wsArr t := ⟨_, rfl⟩
  obtain ⟨Z, hZ⟩ : ∃ Z, Z = wsArr ws0 := ⟨_, rfl⟩
  obtain ⟨U, hU⟩ : ∃ U, U = wsArr (andW s t) := ⟨_, rfl⟩
  simp only [← hZ] at hz z3
  rw [← hU] at z3 s1 s2 HFIN
  rw [← hS, ← hT, ← hZ] at hW1
  rw [← hS, ← hT, ← hU]
  have HZ := Lib.hid hZ
  clear hS hT hU hZ
  go_enter Try.func29, Try.ntmps29
  go_upto_region 1 with fail
  clear hW1 hA hz
  go_wp2_with fail
  go_loopw [6] (fun x wr => ∃ k : Nat, k ≤ 16 ∧ x = .int .i64 k ∧ WsAt wr A (andK s t k) ∧ WsAt wr (A + 1) t ∧ WsAt wr (A + 2) ws0 ∧ Below w.heap.size w wr) (fun x _ => 16 - (intOf x).toNat)
  case atStart => exact ⟨0, Nat.zero_le _, rfl, HA1.out, HT1.out, HC1.out, HB1.out⟩
  case round =>
    clear HA1 HT1 HC1 HB1
    obtain ⟨k, hk, rfl, hA, hT, hC, hB⟩ := hrel
    have HB := Lib.hid hB
    have HC := Lib.hid hC
    by_cases hlt : k < 16
    · have hltI : (k : Int) < 16 := by omega
      have HA := Lib.hid hA
      have HT := Lib.hid hT
      have c1 := hA.cell hlt
      rw [show andK s t k k = s k by unfold andK; rw [if_neg (by omega)]] at c1
      have c2 := hT.cell hlt
      have f1 := hA.frozen k
      have hne : A + 1 ≠ A := by omega
      have hne2 : A + 2 ≠ A := by omega
      have HNX := Lib.hid (andK_next s t k)
      clear hA hT hB hC
      go_wp2_with fail
      go_region
      go_wp2_with fail
      go_roundw
      case rel =>
        refine ⟨k + 1, by omega, by go_num, ?_, ?_, ?_, ?_⟩
        · rw [← HNX.out]; exact HA.out.set k _
        · exact (heap_setCell_other wr ⟨A, k, none⟩ (A + 1) _ hne).trans HT.out
        · exact (heap_setCell_other wr ⟨A, k, none⟩ (A + 2) _ hne2).trans HC.out
        · exact (HB.out.setCell (p := ⟨A, k, none⟩) HAA.out _).drew
      case measure => simp [intOf]; omega
    · obtain rfl : k = 16 := by omega
      have HA := Lib.hid (show wr.heap[A]? = some (.cells U 29 (0, 0)) by rw [← HFIN.out]; exact hA)
      have HC2 := Lib.hid (show wr.heap[A + 2]? = some (.cells Z 29 (0, 0)) by rw [HZ.out]; exact hC)
      clear hA hT hB hC hlt HC
      go_wp2_with (first | (refine wpList_load_row rfl 29 _ rfl A rfl 29 U (0, 0) _ HA.out Try.underlying29 rfl s1 ?_) | (refine wpList_store_row rfl 29 _ _ rfl (A + 2) U rfl rfl 29 Z HC2.out s1 z3 s2 ?_))
      exact bodyPost_ret (results_c1 rfl _ _ (A + 2) 29 U _ rfl (setRow_heap wr (A + 2) Z U 29 (0, 0) HC2.out) Try.underlying29 rfl s1) rfl ⟨rfl, below_setRow HB.out (Nat.le_trans HAA.out (by omega)) _⟩
end Go.Proofs.Ytmbdhpibkhgkcaa
