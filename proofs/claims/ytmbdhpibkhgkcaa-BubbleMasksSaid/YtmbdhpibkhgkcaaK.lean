/- Free and Mask of no forest; ask, Seal, Place (package bubble). No condition. -/
import Derived.Test.YtmbdhpibkhgkcaaJ
namespace Go.Proofs.Ytmbdhpibkhgkcaa
open Go.RowKit

theorem FFree_nil (b : Int) (w : World) : Calls Try.prog 13 #[.pointer none, .int .i64 b] w fun r w' => r = .returned (.bool (b == -1)) ∧ w = w' := by
  go_enter Try.func13, Try.ntmps13
  go_wp2_with fail
  go_loopw [1] (fun x wr => x = .int .i64 b ∧ w = wr) (fun _ _ => 0)
  case atStart => exact ⟨rfl, rfl⟩
  case round =>
    obtain ⟨rfl, rfl⟩ := hrel
    go_wp2_with fail
    refine (FIs_nil _ _).mono ?_
    rintro r w' ⟨rfl, rfl⟩
    go_wp2_with fail
    go_ret
    exact ⟨rfl, rfl⟩

set_option maxRecDepth 100000 in
theorem FMask_nil (b : Int) (w : World) : Calls Try.prog 14 #[.pointer none, .int .i64 b] w fun r w' => r = .returned (wsV wsAll) ∧ Below w.heap.size w w' := by
  have hz := zero29
  have z1 := size29 ws0
  have s1 := size29 wsAll
  have s2 := one29 wsAll
  have z3 : (wsArr ws0).size = (wsArr wsAll).size := by rw [wsArr_size, wsArr_size]
  have HRA := Lib.hid (fun w => Range_all w)
  unfold wsV at HRA ⊢
  rw [range_all] at HRA
  have HA1 := Lib.hid (show (w.alloc (.cells (wsArr ws0) 29)).heap[w.heap.size]? = some (.cells (wsArr ws0) 29 (0, 0)) from heap_alloc_new _ _)
  have HB1 := Lib.hid ((Below.refl w.heap.size w).alloc (Nat.le_refl _) (.cells (wsArr ws0) 29))
  obtain ⟨Z, hZ⟩ : ∃ Z, Z = wsArr ws0 := ⟨_, rfl⟩
  obtain ⟨V, hV⟩ : ∃ V, V = wsArr wsAll := ⟨_, rfl⟩
  simp only [← hZ] at hz z1 z3
  rw [← hZ] at HA1 HB1
  rw [← hV] at HRA s1 s2 z3 ⊢
  clear hZ hV
  obtain ⟨w1, hw1⟩ : ∃ w1, w.alloc (.cells Z 29) = w1 := ⟨_, rfl⟩
  obtain ⟨A, hA⟩ : ∃ A, w.heap.size = A := ⟨_, rfl⟩
  have HAA := Lib.hid (show w.heap.size ≤ A by omega)
  rw [hw1, hA] at HA1
  rw [hw1] at HB1
  go_enter Try.func14, Try.ntmps14
  go_upto_region 1 with fail
  clear hw1 hA
  go_wp2_with fail
  refine (HRA.out _).mono ?_
  rintro r w2 ⟨rfl, hb⟩
  have HA2 := Lib.hid ((hb.block A (Array.getElem?_eq_some_iff.1 HA1.out).1).trans HA1.out)
  have HB2 := Lib.hid (HB1.out.trans (hb.mono HB1.out.size))
  clear hb HRA HA1 HB1
  go_wp2_with (refine wpList_store_row rfl 29 _ _ rfl w2.heap.size V rfl rfl 29 Z (heap_alloc_new _ _) s1 z3 s2 ?_; rw [setRow_new])
  obtain ⟨w3, hw3⟩ : ∃ w3, w2.alloc (.cells V 29) = w3 := ⟨_, rfl⟩
  obtain ⟨B, hB⟩ : ∃ B, w2.heap.size = B := ⟨_, rfl⟩
  have HA3 := Lib.hid (show w3.heap[A]? = some (.cells Z 29 (0, 0)) by rw [← hw3, heap_alloc_old _ _ (Array.getElem?_eq_some_iff.1 HA2.out).1]; exact HA2.out)
  have HS3 := Lib.hid (show w3.heap[B]? = some (.cells V 29 (0, 0)) by rw [← hw3, ← hB]; exact heap_alloc_new _ _)
  have HB3 := Lib.hid (show Below w.heap.size w w3 by rw [← hw3]; exact HB2.out.alloc HB2.out.size _)
  rw [hw3, hB]
  clear hw3 hB HA2 HB2
  simp only [Act.put]
  go_loopw [1] (fun x wr => x = .int .i64 b ∧ w3 = wr) (fun _ _ => 0)
  case atStart => exact ⟨rfl, rfl⟩
  case round =>
    obtain ⟨rfl, rfl⟩ := hrel
    go_wp2_with fail
    refine (FIs_nil _ _).mono ?_
    rintro r w' ⟨rfl, rfl⟩
    go_wp2_with (first | (refine wpList_load_row rfl 29 _ rfl B rfl 29 V (0, 0) _ HS3.out Try.underlying29 rfl s1 ?_) | (refine wpList_store_row rfl 29 _ _ rfl A V rfl rfl 29 Z HA3.out s1 z3 s2 ?_))
    exact bodyPost_ret (results_c1 rfl _ _ A 29 V _ rfl (setRow_heap _ A Z V 29 (0, 0) HA3.out) Try.underlying29 rfl s1) rfl ⟨rfl, below_setRow HB3.out HAA.out _⟩

/-- What ask answers: the bubble's number, or the error. -/
def askD (n : Nat) (bs : Nat → Bk) (b : Int) (l : List Nat) : Option Nat × Int :=
  if isB n b = true then (if l.any (fun (s : Nat) => bs b.toNat 17 == (s : Int)) then (some b.toNat, 0) else (none, 5)) else (none, 3)
/-- Where a bubble lies. -/
def atV (lv : Value) (i : Option Nat) : Value := match lv, i with
  | .slice (some a) _ _, some i => .pointer (some ⟨a.block, i * 19, none⟩)
  | _, _ => .pointer none

section
variable {w w' : World} {base fb n : Nat} {lv : Value} {bs : Nat → Bk}

set_option maxRecDepth 100000 in
theorem FAsk_any (h : IsFo w base fb lv n bs) (b : Int) {v : Value} {l : List Nat} (hv : SlL w v l) (hl : l.length ≤ 10) : Calls Try.prog 24 #[.pointer (some ⟨fb, 0, none⟩), .int .i64 b, v] w
    fun r w' => r = .returned (.tuple #[atV lv (askD n bs b l).1, .int .i64 (askD n bs b l).2]) ∧ w = w' := by
  have HI := Lib.hid (FIs_any h b)
  obtain ⟨a, cap, rfl, ha⟩ := hv
  have HSL := Lib.hid ha
  clear ha
  obtain ⟨q, hq⟩ : ∃ q, askD n bs b l = q := ⟨_, rfl⟩
  rw [hq]
  unfold askD at hq
  cases hb : isB n b with
  | true =>
    rw [hb] at HI hq
    rw [if_pos rfl] at hq
    obtain ⟨b0, b1⟩ := isB_iff.1 hb
    obtain ⟨b, rfl⟩ := Int.eq_ofNat_of_zero_le b0
    rw [Int.toNat_natCast] at hq
    have hc : b < n := by omega
    obtain ⟨la, lcap, rfl, hg⟩ := h.lvForm
    obtain ⟨g, rfl, hgb⟩ := hg (by omega)
    have c0 := h.c0
    have c1 := h.cell hc (o := 17) (by omega)
    rw [show buKind 17 = .i64 from rfl] at c1
    generalize bs b 17 = st at *
    have HQ := Lib.hid hq
    obtain ⟨m, hm⟩ : ∃ m, l.length = m := ⟨_, rfl⟩
    have HM := Lib.hid hm
    rw [hm] at HSL hl
    rw [hm]
    clear h hb hg hq hm
    go_enter Try.func24, Try.ntmps24
    go_wp2_with fail
    refine HI.out.mono ?_
    rintro r w' ⟨rfl, rfl⟩
    go_wp2_with fail
    go_loopw [16] (fun x wr => ∃ k : Nat, k ≤ m ∧ x = .int .i64 k ∧ (∀ s ∈ l.take k, st ≠ (s : Int)) ∧ w = wr) (fun x _ => m - (intOf x).toNat)
    case atStart => exact ⟨0, Nat.zero_le _, rfl, by simp, rfl⟩
    case round =>
      obtain ⟨k, hk, rfl, hno, rfl⟩ := hrel
      by_cases hlt : k < m
      · have hltI : (k : Int) < m := by omega
        obtain ⟨ga, off, rfl, hx⟩ := HSL.out (by omega)
        obtain ⟨y, hy⟩ : ∃ y, l[k]? = some y := ⟨l[k]'(by rw [HM.out]; exact hlt), List.getElem?_eq_getElem _⟩
        have cx := hx k y hy
        have HNO := Lib.hid hno
        have HY := Lib.hid hy
        clear hx hno hy
        by_cases e : st = (y : Int)
        · have n1 : (st == (y : Int)) = true := by simpa using e
          have hany : l.any (fun (s : Nat) => st == (s : Int)) = true := by
            rw [List.any_eq_true]
            exact ⟨y, List.mem_of_getElem? HY.out, n1⟩
          have hq := HQ.out
          rw [hany, if_pos rfl] at hq
          have HQ2 := Lib.hid hq
          clear e hany hq
          go_wp2_with fail
          go_ret2
          rw [← HQ2.out]
          exact ⟨rfl, rfl⟩
        · have n1 : (st == (y : Int)) = false := by simpa using e
          have HNO2 := Lib.hid (show ∀ s ∈ l.take (k + 1), st ≠ (s : Int) by
            intro s hs
            rw [List.take_add_one, HY.out] at hs
            rcases List.mem_append.1 hs with hs | hs
            · exact HNO.out s hs
            · simp at hs; subst hs; exact e)
          clear e
          go_wp2_with fail
          go_roundw
          case rel => exact ⟨k + 1, by omega, by go_num, HNO2.out, trivial⟩
          case measure => simp [intOf]; omega
      · obtain rfl : k = m := by omega
        have hany : l.any (fun (s : Nat) => st == (s : Int)) = false := by
          rw [List.any_eq_false]
          intro s hs
          have := hno s (by rw [← HM.out, List.take_length]; exact hs)
          simpa using this
        have hq := HQ.out
        rw [hany, if_neg (by simp)] at hq
        have HQ2 := Lib.hid hq
        clear hany hq hno
        go_wp2_with fail
        go_ret2
        rw [← HQ2.out]
        exact ⟨rfl, rfl⟩
  | false =>
    rw [hb] at HI hq
    rw [if_neg (by simp)] at hq
    have HQ := Lib.hid hq
    obtain ⟨la, lcap, hlv, hg⟩ := h.lvForm
    have HAT := Lib.hid (show atV lv none = .pointer none by rw [hlv]; cases la <;> rfl)
    clear h hb hq
    go_enter Try.func24, Try.ntmps24
    go_wp2_with fail
    refine HI.out.mono ?_
    rintro r w' ⟨rfl, rfl⟩
    go_wp2_with fail
    go_ret2
    rw [← HQ.out, HAT.out]
    exact ⟨rfl, rfl⟩
end
theorem FAsk_nil (b : Int) (v : Value) (w : World) : Calls Try.prog 24 #[.pointer none, .int .i64 b, v] w fun r w' => r = .returned (.tuple #[.pointer none, .int .i64 3]) ∧ w = w' := by
  go_enter Try.func24, Try.ntmps24
  go_wp2_with fail
  refine (FIs_nil _ _).mono ?_
  rintro r w' ⟨rfl, rfl⟩
  go_wp2_with fail
  go_ret2
  exact ⟨rfl, rfl⟩
end Go.Proofs.Ytmbdhpibkhgkcaa
