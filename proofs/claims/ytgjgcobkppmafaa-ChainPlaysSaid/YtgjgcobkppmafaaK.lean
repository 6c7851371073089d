/- The program's rows and the document's, told alike: Push, Remove, Pop. No condition. -/
import Derived.Test.YtgjgcobkppmafaaJ
namespace Go.Proofs.Ytgjgcobkppmafaa
open Go.RowKit

theorem idxOf_spec {x : Int} : ∀ {l : List Nat}, (idxOf x l = none ∧ ∀ y ∈ l, (y : Int) ≠ x) ∨ ∃ (l1 : List Nat) (y : Nat) (l2 : List Nat), l = l1 ++ y :: l2 ∧ idxOf x l = some l1.length ∧ (y : Int) = x ∧ ∀ z ∈ l1, (z : Int) ≠ x
  | [] => .inl ⟨rfl, by simp⟩
  | a :: r => by
    unfold idxOf
    by_cases h : (a : Int) = x
    · rw [if_pos h]
      exact .inr ⟨[], a, r, rfl, rfl, h, by simp⟩
    · rw [if_neg h]
      rcases idxOf_spec (x := x) (l := r) with ⟨h1, h2⟩ | ⟨l1, y, l2, h1, h2, h3, h4⟩
      · left
        rw [h1]
        refine ⟨rfl, fun y hy => ?_⟩
        rcases List.mem_cons.1 hy with rfl | hy
        · exact h
        · exact h2 y hy
      · right
        refine ⟨a :: l1, y, l2, by rw [h1]; rfl, by rw [h2]; rfl, h3, fun z hz => ?_⟩
        rcases List.mem_cons.1 hz with rfl | hz
        · exact h
        · exact h4 z hz

theorem inRef_spec {R : Nat → List Nat} {x : Int} : ∀ {f a : Nat}, (inRef R x a f = (-1, -1) ∧ ∀ i, a ≤ i → i < a + f → ∀ y ∈ R i, (y : Int) ≠ x) ∨
    ∃ (i : Nat) (l1 : List Nat) (y : Nat) (l2 : List Nat), a ≤ i ∧ i < a + f ∧ R i = l1 ++ y :: l2 ∧ inRef R x a f = ((i : Int), (l1.length : Int)) ∧ (y : Int) = x ∧ ∀ z ∈ l1, (z : Int) ≠ x
  | 0, a => .inl ⟨rfl, fun i _ _ => by omega⟩
  | f + 1, a => by
    unfold inRef
    rcases idxOf_spec (x := x) (l := R a) with ⟨h1, h2⟩ | ⟨l1, y, l2, h1, h2, h3, h4⟩
    · rw [h1]
      simp only []
      rcases inRef_spec (R := R) (x := x) (f := f) (a := a + 1) with ⟨h3, h4⟩ | ⟨i, l1, y, l2, h3, h4, h5, h6, h7, h8⟩
      · left
        refine ⟨h3, fun i hi hi2 => ?_⟩
        by_cases e : i = a
        · subst e; exact h2
        · exact h4 i (by omega) (by omega)
      · exact .inr ⟨i, l1, y, l2, by omega, by omega, h5, h6, h7, h8⟩
    · rw [h2]
      exact .inr ⟨a, l1, y, l2, Nat.le_refl _, by omega, h1, rfl, h3, h4⟩

/-- What holds of the rows, whichever they are. -/
structure RF (N M : Nat) (R : Nat → List Nat) : Prop where
  nodup : ∀ i, i < M → (R i).Nodup
  lt : ∀ i, i < M → ∀ x ∈ R i, x < N
  one : ∀ i x, i < M → x ∈ R i → inR R x M = i
  most : N ≤ 4096

theorem RF.len {N M : Nat} {R : Nat → List Nat} (h : RF N M R) {i : Nat} (hi : i < M) : (R i).length ≤ N := len_le N (R i) (h.nodup i hi) (h.lt i hi)

theorem Has.rf {w : World} {c bn bl N M : Nat} {vn vl : Value} {R : Nat → List Nat} (h : Has w c bn bl vn vl N M R) : RF N M R := by
  obtain ⟨f1, f2, f3, f4⟩ := h.facts
  obtain ⟨s, hs, hr, rfl, rfl⟩ := h
  exact ⟨f1, f2, f4, hs.most.1⟩

/-- In which row x stands is told alike. -/
theorem RF.inRef {N M : Nat} {R : Nat → List Nat} (h : RF N M R) (x : Nat) :
    (inRef R x 0 M = (-1, -1) ∧ inR R x M = -1) ∨ ∃ (i : Nat) (l1 l2 : List Nat), i < M ∧ R i = l1 ++ x :: l2 ∧ inRef R x 0 M = ((i : Int), (l1.length : Int)) ∧ inR R x M = i ∧ x ∉ l1 := by
  rcases inRef_spec (R := R) (x := (x : Int)) (f := M) (a := 0) with ⟨h1, h2⟩ | ⟨i, l1, y, l2, _, h4, h5, h6, h7, h8⟩
  · left
    refine ⟨h1, inR_none.2 fun i hi hm => ?_⟩
    exact h2 i (Nat.zero_le _) (by omega) x hm rfl
  · right
    obtain rfl : y = x := by omega
    exact ⟨i, l1, l2, by omega, h5, h6, h.one i y (by omega) (by rw [h5]; simp), fun hm => h8 y hm rfl⟩

/-- The blocks of the program's rows that may be turned. -/
def Twz (N M bn bl : Nat) : Nat → Prop := fun k => (0 < N ∧ k = bn) ∨ (0 < M ∧ k = bl)

section
variable {w w' : World} {c bn bl N M : Nat} {vn vl : Value} {R : Nat → List Nat}

theorem twz_of {S : World} {N M : Nat} (hN : 0 < N) (hM : 0 < M) (h : Frm (Two bn bl) w S) : Frm (Twz N M bn bl) w S :=
  h.mono fun k _ hk => by rcases hk with rfl | rfl; exact .inl ⟨hN, rfl⟩; exact .inr ⟨hM, rfl⟩

theorem Has.pushz (h : Has w c bn bl vn vl N M R) (i n : Int) : Calls Try.prog 9 #[.pointer (some ⟨c, 0, none⟩), .int .i64 i, .int .i64 n] w
    fun r w' => r = .returned (.int .i64 (pushR N M R i n).1) ∧ Has w' c bn bl vn vl N M (pushR N M R i n).2 ∧ Frm (Twz N M bn bl) w w' := by
  by_cases hz : 0 < N ∧ 0 < M
  · exact (h.push i n).mono fun r w' ⟨a, b, c⟩ => ⟨a, b, twz_of hz.1 hz.2 c⟩
  · have e : pushR N M R i n = (1, R) := by unfold pushR; rw [if_neg (by omega)]
    rw [e]
    have HH := h
    obtain ⟨s, hs, hr, rfl, rfl⟩ := h
    refine (Push_arg c bn bl vn vl s w hs i n (by omega)).mono ?_
    rintro r w' ⟨rfl, rfl⟩
    exact ⟨rfl, HH, Frm.refl _ _⟩

theorem Has.removez (h : Has w c bn bl vn vl N M R) (n : Int) : Calls Try.prog 12 #[.pointer (some ⟨c, 0, none⟩), .int .i64 n] w
    fun r w' => r = .returned (.tuple #[.int .i64 (removeR N M R n).1, .int .i64 (removeR N M R n).2.1]) ∧ Has w' c bn bl vn vl N M (removeR N M R n).2.2 ∧ Frm (Twz N M bn bl) w w' := by
  by_cases hz : 0 < N ∧ 0 < M
  · exact (h.remove n).mono fun r w' ⟨a, b, c⟩ => ⟨a, b, twz_of hz.1 hz.2 c⟩
  · have HH := h
    obtain ⟨s, hs, hr, rfl, rfl⟩ := h
    by_cases hn : 0 ≤ n ∧ n < s.N
    · have hM : s.M = 0 := by omega
      obtain ⟨x, rfl⟩ := Int.eq_ofNat_of_zero_le hn.1
      have hx : x < s.N := by omega
      have h0 : inR R x s.M = -1 := by rw [hM]; rfl
      have e : removeR s.N s.M R x = (0, 3, R) := by
        unfold removeR
        rw [if_pos hn, Int.toNat_natCast, if_pos h0]
      rw [e]
      refine (Remove_none c bn bl vn vl s w hs x hx ((inR_eq hr hx).trans h0)).mono ?_
      rintro r w' ⟨rfl, rfl⟩
      exact ⟨rfl, HH, Frm.refl _ _⟩
    · have e : removeR s.N s.M R n = (0, 1, R) := by unfold removeR; rw [if_neg hn]
      rw [e]
      refine (Remove_arg c bn bl vn vl s w hs n hn).mono ?_
      rintro r w' ⟨rfl, rfl⟩
      exact ⟨rfl, HH, Frm.refl _ _⟩

theorem Has.pop_none (h : Has w c bn bl vn vl N M R) {i : Int} (h0 : firstR M R i = -1) : Calls Try.prog 13 #[.pointer (some ⟨c, 0, none⟩), .int .i64 i] w
    fun r w' => r = .returned (.tuple #[.int .i64 0, .bool false]) ∧ w = w' := by
  have H1 := h.first i
  rw [h0] at H1
  have e3 : tld (-1) = .tuple #[.int .i64 0, .bool false] := rfl
  rw [e3] at H1
  replace H1 := Lib.hid H1
  clear h e3 h0
  go_enter Try.func13, Try.ntmps13
  go_wp2_with fail
  refine H1.out.mono ?_
  rintro r w' ⟨rfl, rfl⟩
  go_wp2_with fail
  go_ret2
  exact ⟨rfl, rfl⟩

/-- Pop of a row that has one. -/
theorem Has.pop_some (h : Has w c bn bl vn vl N M R) {i x : Nat} {r : List Nat} (hi : i < M) (hR : R i = x :: r) : Calls Try.prog 13 #[.pointer (some ⟨c, 0, none⟩), .int .i64 i] w
    fun q w' => q = .returned (.tuple #[.int .i64 x, .bool true]) ∧ Has w' c bn bl vn vl N M (updL R i r) ∧ Frm (Twz N M bn bl) w w' := by
  have hN : 0 < N := by have := h.rf.lt i hi x (by rw [hR]; simp); omega
  have e : popR M R i = ((x : Int), updL R i r) := by unfold popR; rw [if_pos (by omega), Int.toNat_natCast, hR]; rfl
  have h1 := h.pop i
  rw [e] at h1
  have e2 : tld (x : Int) = .tuple #[.int .i64 x, .bool true] := by
    unfold tld
    have a1 : max (x : Int) 0 = x := by omega
    have a2 : ((x : Int) != -1) = true := by simp
    rw [a1, a2]
  simp only at h1
  rw [e2] at h1
  exact h1.mono fun q w' ⟨a, b, c⟩ => ⟨a, b, twz_of hN (by omega) c⟩

variable {rx blr cap n1 : Nat} {V : Nat → Value}

theorem RX.push (h : IsRx w rx blr cap n1 V N M R) (f : RF N M R) (hN : N ≤ 4000) (i n : Int) : Calls Try.prog 27 #[.pointer (some ⟨rx, 0, none⟩), .int .i64 i, .int .i64 n] w
    fun r w' => r = .returned (.int .i64 (pushR N M R i n).1) ∧ (∃ V', IsRx w' rx blr cap n1 V' N M (pushR N M R i n).2) ∧ Frm (fun k => k = blr) w w' := by
  unfold pushR
  by_cases h1 : (0 ≤ i ∧ i < M) ∧ (0 ≤ n ∧ n < N)
  · rw [if_pos h1]
    obtain ⟨i, rfl⟩ := Int.eq_ofNat_of_zero_le h1.1.1
    obtain ⟨n, rfl⟩ := Int.eq_ofNat_of_zero_le h1.2.1
    have hi : i < M := by omega
    have hn : n < N := by omega
    simp only [Int.toNat_natCast]
    rcases f.inRef n with ⟨h2, h3⟩ | ⟨j, l1, l2, h2, h3, h4, h5, h6⟩
    · rw [if_pos h3]
      exact RPush_yes h hi hn (by omega) h2 (by have := f.len hi; omega)
    · rw [if_neg (by rw [h5]; omega)]
      refine (RPush_twice h hi hn h4 (by omega)).mono ?_
      rintro r w' ⟨rfl, rfl⟩
      exact ⟨rfl, ⟨V, h⟩, Frm.refl _ _⟩
  · rw [if_neg h1]
    refine (RPush_arg h (by omega)).mono ?_
    rintro r w' ⟨rfl, rfl⟩
    exact ⟨rfl, ⟨V, h⟩, Frm.refl _ _⟩

theorem RX.remove (h : IsRx w rx blr cap n1 V N M R) (f : RF N M R) (n : Int) : Calls Try.prog 26 #[.pointer (some ⟨rx, 0, none⟩), .int .i64 n] w
    fun r w' => r = .returned (.tuple #[.int .i64 (removeR N M R n).1, .int .i64 (removeR N M R n).2.1]) ∧ (∃ V', IsRx w' rx blr cap n1 V' N M (removeR N M R n).2.2) ∧ Frm (fun k => k = blr) w w' := by
  unfold removeR
  by_cases h1 : 0 ≤ n ∧ n < N
  · rw [if_pos h1]
    obtain ⟨n, rfl⟩ := Int.eq_ofNat_of_zero_le h1.1
    have hn : n < N := by omega
    simp only [Int.toNat_natCast]
    rcases f.inRef n with ⟨h2, h3⟩ | ⟨j, l1, l2, h2, h3, h4, h5, h6⟩
    · rw [if_pos h3]
      refine (RRemove_none h hn h2).mono ?_
      rintro r w' ⟨rfl, rfl⟩
      exact ⟨rfl, ⟨V, h⟩, Frm.refl _ _⟩
    · rw [if_neg (by rw [h5]; omega), h5]
      simp only [Int.toNat_natCast]
      have e : (R j).erase n = l1 ++ l2 := by rw [h3, erase_mid h6]
      rw [e]
      exact RRemove_yes h h2 hn (by have := f.most; omega) h4 h3 rfl
  · rw [if_neg h1]
    refine (RRemove_arg h h1).mono ?_
    rintro r w' ⟨rfl, rfl⟩
    exact ⟨rfl, ⟨V, h⟩, Frm.refl _ _⟩
end
end Go.Proofs.Ytgjgcobkppmafaa
