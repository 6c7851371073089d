/- Contracts of the lock's own functions (package mcs): Step, Holder, New. No condition. -/
import Derived.Test.YthhcmilijiccmaaD
namespace Go.Proofs.Ythhcmilijiccmaa
open Go.RowKit

theorem Step_any (b : Nat) (L : Lock) (who : Int) (w : World) (h : IsLock w b L) (ok : L.Ok) :
    Calls Try.prog 10 #[.pointer (some ⟨b, 0, none⟩), .int .i64 who] w
      fun r w' => r = .returned (.tuple #[.bool (L.step who).1, .int .i64 (L.step who).2.1]) ∧ IsLock w' b (L.step who).2.2 ∧ Frm (Only b) w w' := by
  have hn := ok.n
  have hnum := h.num
  cases hh : L.has who with
  | false =>
    have hno : who < 0 ∨ (L.n : Int) ≤ who := by
      have : ¬ (0 ≤ who ∧ who < L.n) := fun hc => by rw [Lock.has_iff.2 hc] at hh; cases hh
      omega
    have HR := Lib.hid (show L.step who = (false, 1, L) by simp [Lock.step, hh])
    have HL := Lib.hid h
    clear h ok hh
    go_enter Try.func10, Try.ntmps10
    go_wp2_with (go_at_call 17; refine (at_no _ _ _ _ hnum hno).mono ?_; rintro r w' ⟨rfl, rfl⟩)
    go_ret2
    rw [HR.out]
    exact ⟨rfl, HL.out, Frm.refl _ _⟩
  | true =>
    obtain ⟨h0, h1⟩ := Lock.has_iff.1 hh
    obtain ⟨i, rfl⟩ := Int.eq_ofNat_of_zero_le h0
    have hi : i < L.n := by omega
    obtain ⟨c0, c1, c2, c3, c4⟩ := h.cells (show i < 16 by omega)
    by_cases s1 : (L.ps i).state = 1
    · have HT := Lib.hid (take_any b i L w h ok hi s1)
      have HR := Lib.hid (show L.step i = (((L.take i).ps i).state != 1, 0, L.take i) by simp [Lock.step, hh, s1, Lock.stepAt])
      rw [s1] at c2
      clear h ok hh c0 c1 c3 c4 s1
      go_enter Try.func10, Try.ntmps10
      go_wp2_with (go_at_call 17; refine (at_ok _ _ _ _ hnum (by omega) (by omega)).mono ?_; rintro r w' ⟨rfl, rfl⟩)
      refine HT.out.mono ?_
      rintro r w' ⟨rfl, h2, h3⟩
      obtain ⟨d0, d1, d2, d3, d4⟩ := h2.cells (show i < 16 by omega)
      have H2 := Lib.hid h2
      clear h2 d0 d1 d3 d4 c2 hnum
      go_wp2
      go_ret2
      rw [HR.out]
      exact ⟨rfl, H2.out, h3⟩
    by_cases s3 : (L.ps i).state = 3
    · have HT := Lib.hid (give_any b i L w h ok hi s3)
      have HR := Lib.hid (show L.step i = (((L.give i).ps i).state != 3, 0, L.give i) by simp [Lock.step, hh, s3, Lock.stepAt])
      rw [s3] at c2
      clear h ok hh c0 c1 c3 c4 s1 s3
      go_enter Try.func10, Try.ntmps10
      go_wp2_with (go_at_call 17; refine (at_ok _ _ _ _ hnum (by omega) (by omega)).mono ?_; rintro r w' ⟨rfl, rfl⟩)
      refine HT.out.mono ?_
      rintro r w' ⟨rfl, h2, h3⟩
      obtain ⟨d0, d1, d2, d3, d4⟩ := h2.cells (show i < 16 by omega)
      have H2 := Lib.hid h2
      clear h2 d0 d1 d3 d4 c2 hnum
      go_wp2
      go_ret2
      rw [HR.out]
      exact ⟨rfl, H2.out, h3⟩
    · have HR := Lib.hid (show L.step i = (false, 5, L) by simp [Lock.step, hh, s1, s3])
      have HL := Lib.hid h
      have s1' : ((L.ps i).state == 1) = false := by simpa using s1
      have s3' : ((L.ps i).state == 3) = false := by simpa using s3
      clear h ok hh c0 c1 c3 c4 s1 s3
      go_enter Try.func10, Try.ntmps10
      go_wp2_with (go_at_call 17; refine (at_ok _ _ _ _ hnum (by omega) (by omega)).mono ?_; rintro r w' ⟨rfl, rfl⟩)
      go_ret2
      rw [HR.out]
      exact ⟨rfl, HL.out, Frm.refl _ _⟩

/-- The first party, below n, that is inside or giving. -/
def firstIn (L : Lock) : Nat → Option Nat
  | 0 => none
  | n + 1 => match firstIn L n with
    | some i => some i
    | none => if 2 ≤ (L.ps n).state then some n else none

theorem firstIn_none {L : Lock} : ∀ {n : Nat}, firstIn L n = none ↔ ∀ i, i < n → (L.ps i).state < 2 := by
  intro n
  induction n with
  | zero => simp [firstIn]
  | succ n ih =>
    simp only [firstIn]
    cases hf : firstIn L n with
    | some i =>
      simp only [reduceCtorEq, false_iff]
      intro hc
      have := ih.2 (fun i hi => hc i (by omega))
      rw [hf] at this; cases this
    | none =>
      have hall := ih.1 hf
      by_cases h : 2 ≤ (L.ps n).state
      · simp only [h, if_true, reduceCtorEq, false_iff]
        intro hc
        have := hc n (by omega)
        omega
      · simp only [h, if_false, true_iff]
        intro i hi
        by_cases e : i = n
        · subst e; omega
        · exact hall i (by omega)

theorem firstIn_mono {L : Lock} {n m i : Nat} (h : firstIn L n = some i) (hm : n ≤ m) : firstIn L m = some i := by
  obtain ⟨d, rfl⟩ : ∃ d, m = n + d := ⟨m - n, by omega⟩
  clear hm
  induction d with
  | zero => exact h
  | succ d ih => rw [← Nat.add_assoc, firstIn, ih]

def holder (L : Lock) : Int × Bool := match firstIn L L.n with
  | some i => (i, true)
  | none => (0, false)

theorem Holder_any (b : Nat) (L : Lock) (w : World) (h : IsLock w b L) (ok : L.Ok) :
    Calls Try.prog 15 #[.pointer (some ⟨b, 0, none⟩)] w fun r w' => r = .returned (.tuple #[.int .i64 (holder L).1, .bool (holder L).2]) ∧ w = w' := by
  have hn := ok.n
  have hnum := h.num
  have HL := Lib.hid h
  clear h ok
  go_enter Try.func15, Try.ntmps15
  go_wp2_with fail
  go_loop [11] (fun i => ∃ k : Nat, k ≤ L.n ∧ i = .int .i64 k ∧ firstIn L k = none) (fun i => L.n - (intOf i).toNat)
  case atStart => exact ⟨0, Nat.zero_le _, rfl, rfl⟩
  case round =>
    obtain ⟨k, hk, rfl, hf⟩ := hrel
    by_cases hlt : k < L.n
    · obtain ⟨c0, c1, c2, c3, c4⟩ := HL.out.cells (show k < 16 by omega)
      clear c0 c1 c3 c4
      have HF := Lib.hid hf
      clear hf
      by_cases h2 : 2 ≤ (L.ps k).state
      · have HR := Lib.hid (show holder L = ((k : Int), true) by
          unfold holder
          rw [firstIn_mono (n := k + 1) (i := k) (by simp [firstIn, HF.out, h2]) (by omega)])
        go_wp2
        go_ret2
        rw [HR.out]
        exact ⟨rfl, rfl⟩
      · have HR := Lib.hid (show firstIn L (k + 1) = none by simp [firstIn, HF.out, h2])
        go_wp2
        go_round
        case rel => exact ⟨k + 1, by omega, by go_num, HR.out⟩
        case measure => simp [intOf]; omega
    · obtain rfl : k = L.n := by omega
      have HR := Lib.hid (show holder L = (0, false) by unfold holder; rw [hf])
      clear hf
      go_wp2
      go_ret2
      rw [HR.out]
      exact ⟨rfl, rfl⟩

theorem Holder_nil (w : World) : Calls Try.prog 15 #[.pointer none] w fun r w' => r = .returned (.tuple #[.int .i64 0, .bool false]) ∧ w = w' := by
  go_enter Try.func15, Try.ntmps15
  go_wp2
  go_ret2
  exact ⟨rfl, rfl⟩

theorem Step_nil (who : Int) (w : World) : Calls Try.prog 10 #[.pointer none, .int .i64 who] w fun r w' => r = .returned (.tuple #[.bool false, .int .i64 1]) ∧ w = w' := by
  go_enter Try.func10, Try.ntmps10
  go_wp2_with (go_at_call 17; refine (at_nil _ _).mono ?_; rintro r w' ⟨rfl, rfl⟩)
  go_ret2
  exact ⟨rfl, rfl⟩

theorem State_nil (who : Int) (w : World) : Calls Try.prog 9 #[.pointer none, .int .i64 who] w fun r w' => r = .returned (.int .i64 (-1)) ∧ w = w' := by
  go_enter Try.func9, Try.ntmps9
  go_wp2_with (go_at_call 17; refine (at_nil _ _).mono ?_; rintro r w' ⟨rfl, rfl⟩)
  go_ret
  exact ⟨rfl, rfl⟩

theorem begin_nil (who f t : Int) (w : World) : Calls Try.prog 16 #[.pointer none, .int .i64 who, .int .i64 f, .int .i64 t] w fun r w' => r = .returned (.int .i64 1) ∧ w = w' := by
  go_enter Try.func16, Try.ntmps16
  go_wp2_with (go_at_call 17; refine (at_nil _ _).mono ?_; rintro r w' ⟨rfl, rfl⟩)
  go_ret
  exact ⟨rfl, rfl⟩

theorem Take_nil (who : Int) (w : World) : Calls Try.prog 7 #[.pointer none, .int .i64 who] w fun r w' => r = .returned (.int .i64 1) ∧ w = w' := by
  go_enter Try.func7, Try.ntmps7
  go_wp2_with (go_at_call 16; refine (begin_nil _ _ _ _).mono ?_; rintro r w' ⟨rfl, rfl⟩)
  go_ret
  exact ⟨rfl, rfl⟩

theorem Give_nil (who : Int) (w : World) : Calls Try.prog 8 #[.pointer none, .int .i64 who] w fun r w' => r = .returned (.int .i64 1) ∧ w = w' := by
  go_enter Try.func8, Try.ntmps8
  go_wp2_with (go_at_call 16; refine (begin_nil _ _ _ _).mono ?_; rintro r w' ⟨rfl, rfl⟩)
  go_ret
  exact ⟨rfl, rfl⟩

/-- The cells of a lock that is all zero. -/
def zs : Array Value := #[.int .i64 0, .int .i64 0, .bool false, .int .i64 0, .int .i64 0, .int .i64 0, .int .i64 0, .bool false, .int .i64 0, .int .i64 0, .int .i64 0, .int .i64 0, .bool false, .int .i64 0, .int .i64 0, .int .i64 0, .int .i64 0, .bool false, .int .i64 0, .int .i64 0, .int .i64 0, .int .i64 0, .bool false, .int .i64 0, .int .i64 0, .int .i64 0, .int .i64 0, .bool false, .int .i64 0, .int .i64 0, .int .i64 0, .int .i64 0, .bool false, .int .i64 0, .int .i64 0, .int .i64 0, .int .i64 0, .bool false, .int .i64 0, .int .i64 0, .int .i64 0, .int .i64 0, .bool false, .int .i64 0, .int .i64 0, .int .i64 0, .int .i64 0, .bool false, .int .i64 0, .int .i64 0, .int .i64 0, .int .i64 0, .bool false, .int .i64 0, .int .i64 0, .int .i64 0, .int .i64 0, .bool false, .int .i64 0, .int .i64 0, .int .i64 0, .int .i64 0, .bool false, .int .i64 0, .int .i64 0, .int .i64 0, .int .i64 0, .bool false, .int .i64 0, .int .i64 0, .int .i64 0, .int .i64 0, .bool false, .int .i64 0, .int .i64 0, .int .i64 0, .int .i64 0, .bool false, .int .i64 0, .int .i64 0, .int .i64 0, .int .i64 0]
theorem zs_size : zs.size = 82 := rfl
theorem zs_ne : (zs = #[]) = False := by
  rw [eq_iff_iff, iff_false]
  intro h
  have := congrArg Array.size h
  rw [zs_size] at this
  cases this
theorem Try.zero48 (w : World) : (zeroValue 48).run Try.prog w = .ok (.agg zs) w := by kernel_rfl

/-- A lock that is being made: the first k parties have no next one. -/
def made (k n : Nat) : Lock := ⟨-1, fun i => ⟨if i < k then -1 else 0, false, 0, 0, 0⟩, n⟩

theorem zs_at (n : Nat) : ∀ o, o < 82 → o ≠ 0 → o ≠ 81 → zs[o]? = some (enc (made 0 n) o) := by
  intro o ho h0 h1
  obtain ⟨i, j, hj, rfl⟩ : ∃ i j, j < 5 ∧ o = 1 + i * 5 + j := ⟨(o - 1) / 5, (o - 1) % 5, by omega, by omega⟩
  have hi : i < 16 := by omega
  rw [enc_at _ hi hj]
  have hi' : i = 0 ∨ i = 1 ∨ i = 2 ∨ i = 3 ∨ i = 4 ∨ i = 5 ∨ i = 6 ∨ i = 7 ∨ i = 8 ∨ i = 9 ∨ i = 10 ∨ i = 11 ∨ i = 12 ∨ i = 13 ∨ i = 14 ∨ i = 15 := by omega
  have hj' : j = 0 ∨ j = 1 ∨ j = 2 ∨ j = 3 ∨ j = 4 := by omega
  rcases hi' with rfl | rfl | rfl | rfl | rfl | rfl | rfl | rfl | rfl | rfl | rfl | rfl | rfl | rfl | rfl | rfl <;> rcases hj' with rfl | rfl | rfl | rfl | rfl <;> rfl

theorem made_start (w : World) (m : Nat) (v : Int) (hv : v = m) : IsLock (w.alloc (.cells ((zs.setIfInBounds 0 (.int .i64 (-1))).setIfInBounds 81 (.int .i64 v)) 48)) w.heap.size (made 0 m) := by
  subst hv
  refine ⟨_, heap_alloc_new w _, by simp [zs_size], fun o ho => ?_⟩
  by_cases h1 : o = 81
  · subst h1
    rw [Array.getElem?_setIfInBounds_self_of_lt (by simp [zs_size])]
    rfl
  rw [Array.getElem?_setIfInBounds_ne (Ne.symm h1)]
  by_cases h0 : o = 0
  · subst h0
    rw [Array.getElem?_setIfInBounds_self_of_lt (by simp [zs_size])]
    rfl
  rw [Array.getElem?_setIfInBounds_ne (Ne.symm h0)]
  exact zs_at m o ho h0 h1

theorem made_succ (k m : Nat) : (made k m).setP k { (made k m).ps k with next := -1 } = made (k + 1) m := by
  simp only [made, Lock.setP, Lock.mk.injEq, true_and, and_true]
  funext j
  by_cases h : j = k
  · subst h; simp
  · have : j < k + 1 ↔ j < k := by omega
    simp [h, this]

theorem made_end {w : World} {b m : Nat} (h : IsLock w b (made 16 m)) (n : Int) (hm : m = (Lock.fresh n).n) : IsLock w b (Lock.fresh n) := by
  refine Blk.congr h fun o ho => ?_
  unfold enc
  by_cases h0 : o = 0
  · simp [h0, made, Lock.fresh]
  by_cases h1 : o = 81
  · subst h1; simp only [made]; rw [hm]; rfl
  rw [if_neg h0, if_neg h1, if_neg h0, if_neg h1]
  have : (o - 1) / 5 < 16 := by omega
  simp [made, Lock.fresh, this]

theorem New_any (n : Int) (w : World) (h0 : -9223372036854775808 ≤ n) (h1 : n ≤ 9223372036854775807) :
    Calls Try.prog 6 #[.int .i64 n] w fun r w' => ∃ b, r = .returned (.pointer (some ⟨b, 0, none⟩)) ∧ w.heap.size ≤ b ∧ IsLock w' b (Lock.fresh n) ∧ Below w.heap.size w w' := by
  obtain ⟨m, hm⟩ : ∃ m : Nat, m = (Lock.fresh n).n := ⟨_, rfl⟩
  have hm' : (m : Int) = max 1 (min n 16) := by rw [hm]; simp only [Lock.fresh]; omega
  have HM := Lib.hid hm
  clear hm
  have hz := Try.zero48
  have hz1 := zs_ne
  have hz2 := zs_size
  go_enter Try.func6, Try.ntmps6
  go_wp2_with fail
  all_goals
    clear hz hz1 hz2
    obtain ⟨W0, hW0⟩ : ∃ W0, W0 = w.alloc (.cells ((zs.setIfInBounds 0 (.int .i64 (-1))).setIfInBounds 81 (.int .i64 m)) 48) := ⟨_, rfl⟩
    have hB0 : Below w.heap.size w W0 := by rw [hW0]; exact (Below.refl _ _).alloc (Nat.le_refl _) _
    have hL0 : IsLock W0 w.heap.size (made 0 m) := by rw [hW0]; exact made_start w m _ rfl
    have HW := Lib.hid hW0
    clear hW0
    go_loopw [10] (fun i wr => ∃ k : Nat, k ≤ 16 ∧ i = .int .i64 k ∧ IsLock wr w.heap.size (made k m) ∧ Below w.heap.size w wr) (fun i _ => 16 - (intOf i).toNat)
    case atStart =>
      refine ⟨0, Nat.zero_le _, rfl, ?_, ?_⟩
      · exact made_start w m _ (by omega)
      · exact (Below.refl _ _).alloc (Nat.le_refl _) _
    case round =>
      obtain ⟨k, hk, rfl, hL, hB⟩ := hrel
      by_cases hlt : k < 16
      · obtain ⟨c0, c1, c2, c3, c4⟩ := hL.cells hlt
        have fz : ∀ o, wr.frozen? ⟨w.heap.size, o, none⟩ = false := Blk.frozen hL
        have HL := Lib.hid hL
        clear hL c1 c2 c3 c4
        go_wp2_with fail
        go_roundw
        case rel => exact ⟨k + 1, by omega, by go_num, by have := HL.out.setNext hlt (-1); rw [made_succ] at this; exact this, hB.setCell (p := ⟨w.heap.size, _, none⟩) (Nat.le_refl _) _⟩
        case measure => simp [intOf]; omega
      · obtain rfl : k = 16 := by omega
        have HL := Lib.hid hL
        clear hL
        go_wp2_with fail
        go_ret
        exact ⟨_, rfl, Nat.le_refl _, made_end HL.out n HM.out, hB⟩
end Go.Proofs.Ythhcmilijiccmaa
