/- Contracts of the document's row (package pinfoldref28): Begin, and steps of nobody. No condition. -/
import Derived.Test.YtnjondphbfniaaaK
namespace Go.Proofs.Ytnjondphbfniaaa
open Go.RowKit

section
variable {w : World} {rb sb qb rn cs cq : Nat} {r : Dq}

set_option maxRecDepth 100000 in
theorem RStep_no (h : IsRf w rb sb qb rn cs cq r) (who : Int) (hh : r.has who = false) :
    Calls Try.prog 20 #[.pointer (some ⟨rb, 0, none⟩), .int .i64 who] w fun e w' => e = .returned (.tuple #[.int .i64 0, .int .i64 0, .int .i64 1]) ∧ w = w' := by
  have c4 := h.c4
  have hno : who < 0 ∨ (r.n : Int) ≤ who := by
    have : ¬ (0 ≤ who ∧ who < r.n) := fun hc => by rw [Dq.has_iff.2 hc] at hh; cases hh
    omega
  clear h hh
  by_cases h0 : who < 0
  · clear hno
    go_enter Try.func20, Try.ntmps20
    go_wp2
    go_ret3
    exact ⟨rfl, rfl⟩
  · have h1 : (r.n : Int) ≤ who := by omega
    clear hno
    go_enter Try.func20, Try.ntmps20
    go_wp2
    go_ret3
    exact ⟨rfl, rfl⟩

set_option maxRecDepth 100000 in
set_option maxHeartbeats 2000000 in
theorem RStep_idle (h : IsRf w rb sb qb rn cs cq r) (hn : r.n ≤ 9) {i : Nat} (hi : i < r.n) (hc : (r.ps i).call = 0) (hs : 0 ≤ (r.ps i).step ∧ (r.ps i).step ≤ 5) :
    Calls Try.prog 20 #[.pointer (some ⟨rb, 0, none⟩), .int .i64 i] w fun e w' => e = .returned (.tuple #[.int .i64 0, .int .i64 0, .int .i64 5]) ∧ Below w.heap.size w w' := by
  have c4 := h.c4
  obtain ⟨p0, p1, p2, p3, p4, p5⟩ := h.party hi
  rw [hc] at p0
  generalize (r.ps i).step = s at *
  clear h hc
  have hs' : s = 0 ∨ s = 1 ∨ s = 2 ∨ s = 3 ∨ s = 4 ∨ s = 5 := by omega
  clear hs
  rcases hs' with rfl | rfl | rfl | rfl | rfl | rfl
  all_goals
    go_enter Try.func20, Try.ntmps20
    go_wp2
    go_ret3
    exact ⟨rfl, (Below.refl _ _).alloc (Nat.le_refl _) _⟩

theorem RBegin_own (h : IsRf w rb sb qb rn cs cq r) (hn : 1 ≤ r.n ∧ r.n ≤ 9) (c x : Int) (hc : c = 1 ∨ c = 2) :
    Calls Try.prog 17 #[.pointer (some ⟨rb, 0, none⟩), .int .i64 0, .int .i64 c, .int .i64 x] w
      fun e w' => e = .returned (.int .i64 (r.begin 0 c x).1) ∧ IsRf w' rb sb qb rn cs cq (r.begin 0 c x).2 ∧ Frm (Rfb rb sb qb) w w' := by
  have c4 := h.c4
  obtain ⟨p0, p1, p2, p3, p4, p5⟩ := h.party (i := 0) (by omega)
  simp only [Nat.zero_mul, Nat.zero_add] at p0 p1 p2 p3 p4 p5
  have fq := h.parts.frozen
  have hh : r.has 0 = true := Dq.has_iff.2 ⟨by omega, by omega⟩
  unfold Dq.begin
  rw [if_pos hh, show (0 : Int).toNat = 0 from rfl]
  have H := Lib.hid h
  have hln : (0 : Int) < (r.n : Int) := by omega
  by_cases h0 : (r.ps 0).call = 0
  · rw [if_pos h0]
    rw [h0] at p0
    have HX := Lib.hid (h.put6 (i := 0) (by omega) { Pt.none with call := c, step := 1, x := x })
    have HXF := Lib.hid (((((((Frm.refl (Rfb rb sb qb) w).qf 0 (.int .i64 c)).qf 1 (.int .i64 1)).qf 2 (.int .i64 0)).qf 3 (.int .i64 0)).qf 4 (.int .i64 x)).qf 5 (.bool false))
    have H0 := Lib.hid h0
    clear h h0 hh
    rcases hc with rfl | rfl
    all_goals
      go_enter Try.func17, Try.ntmps17
      go_wp2_with fail
      go_ret
      exact ⟨rfl, HX.out, HXF.out⟩
  · rw [if_neg h0]
    have h1 : ((r.ps 0).call != 0) = true := by simpa using h0
    have H0 := Lib.hid h0
    clear h h0 hh
    rcases hc with rfl | rfl
    all_goals
      go_enter Try.func17, Try.ntmps17
      go_wp2_with fail
      go_ret
      exact ⟨rfl, H.out, Frm.refl _ _⟩

theorem RBegin_theft (h : IsRf w rb sb qb rn cs cq r) (hn : 1 ≤ r.n ∧ r.n ≤ 9) (who : Int) :
    Calls Try.prog 17 #[.pointer (some ⟨rb, 0, none⟩), .int .i64 who, .int .i64 3, .int .i64 0] w
      fun e w' => e = .returned (.int .i64 (r.theft who).1) ∧ IsRf w' rb sb qb rn cs cq (r.theft who).2 ∧ Frm (Rfb rb sb qb) w w' := by
  have c4 := h.c4
  have H := Lib.hid h
  unfold Dq.theft
  by_cases hw : who = 0
  · rw [if_pos hw]
    subst hw
    have hln : (0 : Int) < (r.n : Int) := by omega
    clear h
    go_enter Try.func17, Try.ntmps17
    go_wp2_with fail
    go_ret
    exact ⟨rfl, H.out, Frm.refl _ _⟩
  rw [if_neg hw]
  have hw0 : (who == 0) = false := by simpa using hw
  have HW := Lib.hid hw
  clear hw
  unfold Dq.begin
  by_cases h1 : who < 0
  · have hh : ¬ r.has who = true := fun e => by have := Dq.has_iff.1 e; omega
    rw [if_neg hh]
    clear h hh
    go_enter Try.func17, Try.ntmps17
    go_wp2_with fail
    go_ret
    exact ⟨rfl, H.out, Frm.refl _ _⟩
  by_cases h2 : (r.n : Int) ≤ who
  · have hh : ¬ r.has who = true := fun e => by have := Dq.has_iff.1 e; omega
    rw [if_neg hh]
    clear h hh
    go_enter Try.func17, Try.ntmps17
    go_wp2_with fail
    go_ret
    exact ⟨rfl, H.out, Frm.refl _ _⟩
  obtain ⟨i, rfl⟩ := Int.eq_ofNat_of_zero_le (show 0 ≤ who by omega)
  have hi : i < r.n := by omega
  have hh : r.has (i : Int) = true := Dq.has_iff.2 ⟨by omega, by omega⟩
  rw [if_pos hh, Int.toNat_natCast]
  obtain ⟨p0, p1, p2, p3, p4, p5⟩ := h.party hi
  have fq := h.parts.frozen
  by_cases h0 : (r.ps i).call = 0
  · rw [if_pos h0]
    rw [h0] at p0
    have HX := Lib.hid (h.put6 hi { Pt.none with call := 3, step := 1, x := 0 })
    have HXF := Lib.hid (((((((Frm.refl (Rfb rb sb qb) w).qf (i * 6) (.int .i64 3)).qf (i * 6 + 1) (.int .i64 1)).qf (i * 6 + 2) (.int .i64 0)).qf (i * 6 + 3) (.int .i64 0)).qf (i * 6 + 4) (.int .i64 0)).qf (i * 6 + 5) (.bool false))
    have H0 := Lib.hid h0
    clear h h0 hh
    go_enter Try.func17, Try.ntmps17
    go_wp2_with fail
    go_ret
    exact ⟨rfl, HX.out, HXF.out⟩
  · rw [if_neg h0]
    have h3 : ((r.ps i).call != 0) = true := by simpa using h0
    have H0 := Lib.hid h0
    clear h h0 hh
    go_enter Try.func17, Try.ntmps17
    go_wp2_with fail
    go_ret
    exact ⟨rfl, H.out, Frm.refl _ _⟩
end

/-- The beginnings are alike. -/
theorem Like.begin {d r : Dq} (h : Like d r) (who c x : Int) : (r.begin who c x).1 = (d.begin who c x).1 ∧ Like (d.begin who c x).2 (r.begin who c x).2 := by
  unfold Dq.begin Dq.has
  rw [h.n, (h.ps who.toNat).call]
  split
  · split
    · exact ⟨rfl, h.setP _ (PtLike.refl _)⟩
    · exact ⟨rfl, h⟩
  · exact ⟨rfl, h⟩
theorem Like.theft {d r : Dq} (h : Like d r) (who : Int) : (r.theft who).1 = (d.theft who).1 ∧ Like (d.theft who).2 (r.theft who).2 := by
  unfold Dq.theft
  split
  · exact ⟨rfl, h⟩
  · exact h.begin who 3 0
end Go.Proofs.Ytnjondphbfniaaa
