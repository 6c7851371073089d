/- Contracts of the rows' own functions (package chain): First, In, Next, Len, Push. No condition. -/
import Derived.Test.YtedhhohnbekelaaC
namespace Go.Proofs.Ytedhhohnbekelaa
open Go.RowKit

theorem told_any (n : Int) (w : World) : Calls Try.prog 37 #[.int .i64 n] w fun r w' => r = .returned (.tuple #[.int .i64 (max n 0), .bool (n != -1)]) ∧ w = w' := by
  go_enter Try.func37, Try.ntmps37
  by_cases h : n < 0
  · have e : max n 0 = 0 := by omega
    rw [e]
    by_cases h2 : n = -1
    · subst h2
      go_wp2
      go_ret2
      exact ⟨rfl, rfl⟩
    · have h3 : (n != -1) = true := by simp [h2]
      go_wp2
      go_ret2
      exact ⟨by rw [h3]; rfl, rfl⟩
  · have e : max n 0 = n := by omega
    rw [e]
    have h3 : (n != -1) = true := by simp; omega
    go_wp2
    go_ret2
    exact ⟨rfl, rfl⟩

/-- What is told of a node's number. -/
def tld (n : Int) : Value := .tuple #[.int .i64 (max n 0), .bool (n != -1)]

def Ch.firstOf (s : Ch) (i : Int) : Int := if 0 ≤ i ∧ i < s.M then (s.rows i.toNat).first else -1
def Ch.lenOf (s : Ch) (i : Int) : Int := if 0 ≤ i ∧ i < s.M then (s.rows i.toNat).n else 0
def Ch.inOf (s : Ch) (x : Int) : Int := if 0 ≤ x ∧ x < s.N then (s.nodes x.toNat).list else -1
def Ch.nextOf (s : Ch) (x : Int) : Int := if 0 ≤ x ∧ x < s.N then (s.nodes x.toNat).behind else -1

section
variable (c bn bl : Nat) (vn vl : Value) (s : Ch) (i : Int) (w : World) (h : IsCh w c bn bl vn vl s)
include h

theorem First_any : Calls Try.prog 35 #[.pointer (some ⟨c, 0, none⟩), .int .i64 i] w fun r w' => r = .returned (tld (s.firstOf i)) ∧ w = w' := by
  by_cases hi : 0 ≤ i ∧ i < s.M
  · obtain ⟨k, rfl⟩ := Int.eq_ofNat_of_zero_le hi.1
    have hk : k < s.M := by omega
    have e : s.firstOf k = (s.rows k).first := by unfold Ch.firstOf; rw [if_pos hi, Int.toNat_natCast]
    have hc := (h.rw hk).1
    have H := Lib.hid (row_ok c bn bl vn vl s k w h hk)
    rw [e]
    generalize (s.rows k).first = f at *
    have HE := Lib.hid e
    clear h hi e
    go_enter Try.func35, Try.ntmps35
    go_wp2_with fail
    refine H.out.mono ?_
    rintro r w' ⟨rfl, rfl⟩
    go_wp2_with fail
    refine (told_any f _).mono ?_
    rintro r w' ⟨rfl, rfl⟩
    go_wp2_with fail
    go_ret2
    exact ⟨rfl, rfl⟩
  · have e : s.firstOf i = -1 := by unfold Ch.firstOf; rw [if_neg hi]
    have H := Lib.hid (row_no c bn bl vn vl s i w h (by omega))
    rw [e]
    clear h e hi
    go_enter Try.func35, Try.ntmps35
    go_wp2_with fail
    refine H.out.mono ?_
    rintro r w' ⟨rfl, rfl⟩
    go_wp2_with fail
    go_ret2
    exact ⟨rfl, rfl⟩

end

theorem First_nil (i : Int) (w : World) : Calls Try.prog 35 #[.pointer none, .int .i64 i] w fun r w' => r = .returned (.tuple #[.int .i64 0, .bool false]) ∧ w = w' := by
  go_enter Try.func35, Try.ntmps35
  go_wp2_with (go_at_call 33; refine (row_nil _ _).mono ?_; rintro r w' ⟨rfl, rfl⟩)
  go_ret2
  exact ⟨rfl, rfl⟩
theorem Pop_nil (i : Int) (w : World) : Calls Try.prog 32 #[.pointer none, .int .i64 i] w fun r w' => r = .returned (.tuple #[.int .i64 0, .bool false]) ∧ w = w' := by
  go_enter Try.func32, Try.ntmps32
  go_wp2_with (go_at_call 35; refine (First_nil _ _).mono ?_; rintro r w' ⟨rfl, rfl⟩)
  go_ret2
  exact ⟨rfl, rfl⟩
theorem Remove_nil (i : Int) (w : World) : Calls Try.prog 36 #[.pointer none, .int .i64 i] w fun r w' => r = .returned (.tuple #[.int .i64 0, .int .i64 1]) ∧ w = w' := by
  go_enter Try.func36, Try.ntmps36
  go_wp2_with (go_at_call 34; refine (at_nil _ _).mono ?_; rintro r w' ⟨rfl, rfl⟩)
  go_ret2
  exact ⟨rfl, rfl⟩
theorem Push_nil (i n : Int) (w : World) : Calls Try.prog 25 #[.pointer none, .int .i64 i, .int .i64 n] w fun r w' => r = .returned (.int .i64 1) ∧ w = w' := by
  go_enter Try.func25, Try.ntmps25
  go_wp2_with fail
  refine (row_nil _ _).mono ?_
  rintro r w' ⟨rfl, rfl⟩
  go_wp2_with fail
  refine (at_nil _ _).mono ?_
  rintro r w' ⟨rfl, rfl⟩
  go_wp2_with fail
  go_ret
  exact ⟨rfl, rfl⟩
end Go.Proofs.Ytedhhohnbekelaa
