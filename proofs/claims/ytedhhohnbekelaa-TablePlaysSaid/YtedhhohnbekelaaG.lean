/- The rows' calls (package chain), told by the rows alone. No condition. -/
import Derived.Test.YtedhhohnbekelaaF
namespace Go.Proofs.Ytedhhohnbekelaa
open Go.RowKit

/-- In which row, below k, x stands; -1: in none. -/
def inR (R : Nat → List Nat) (x : Nat) : Nat → Int
  | 0 => -1
  | k + 1 => if x ∈ R k then k else inR R x k

theorem inR_none {R : Nat → List Nat} {x : Nat} : ∀ {M : Nat}, inR R x M = -1 ↔ ∀ i, i < M → x ∉ R i
  | 0 => by simp [inR]
  | k + 1 => by
    unfold inR
    by_cases h : x ∈ R k
    · rw [if_pos h]
      exact ⟨fun e => by omega, fun e => absurd h (e k (by omega))⟩
    · rw [if_neg h, inR_none (M := k)]
      refine ⟨fun e i hi => ?_, fun e i hi => e i (by omega)⟩
      by_cases hik : i = k
      · subst hik; exact h
      · exact e i (by omega)

theorem inR_some {R : Nat → List Nat} {x : Nat} : ∀ {M : Nat}, inR R x M ≠ -1 → ∃ i : Nat, inR R x M = i ∧ i < M ∧ x ∈ R i
  | 0, h => absurd rfl h
  | k + 1, h => by
    unfold inR at h ⊢
    by_cases hk : x ∈ R k
    · rw [if_pos hk]; exact ⟨k, rfl, by omega, hk⟩
    · rw [if_neg hk] at h ⊢
      obtain ⟨i, h1, h2, h3⟩ := inR_some (M := k) h
      exact ⟨i, h1, by omega, h3⟩

theorem inR_in {s : Ch} {R : Nat → List Nat} (h : Rep s R) {i x : Nat} (hi : i < s.M) (hx : x ∈ R i) : inR R x s.M = i := by
  by_cases e : inR R x s.M = -1
  · exact absurd hx (inR_none.1 e i hi)
  · obtain ⟨j, h1, h2, h3⟩ := inR_some e
    have := h.apart hi h2 hx h3
    omega

theorem inR_eq {s : Ch} {R : Nat → List Nat} (h : Rep s R) {x : Nat} (hx : x < s.N) : (s.nodes x).list = inR R x s.M := by
  rcases h.where hx with ⟨h1, h2⟩ | ⟨i, h1, h2, h3⟩
  · rw [h1, inR_none.2 h2]
  · rw [h2, inR_in h h1 h3]

/-- Rows and nodes in memory, told by the rows alone. -/
def Has (w : World) (c bn bl : Nat) (vn vl : Value) (N M : Nat) (R : Nat → List Nat) : Prop := ∃ s, IsCh w c bn bl vn vl s ∧ Rep s R ∧ s.N = N ∧ s.M = M

def pushR (N M : Nat) (R : Nat → List Nat) (i n : Int) : Int × (Nat → List Nat) :=
  if (0 ≤ i ∧ i < M) ∧ (0 ≤ n ∧ n < N) then if inR R n.toNat M = -1 then (0, updL R i.toNat (R i.toNat ++ [n.toNat])) else (9, R) else (1, R)

def removeR (N M : Nat) (R : Nat → List Nat) (n : Int) : Int × Int × (Nat → List Nat) :=
  if 0 ≤ n ∧ n < N then if inR R n.toNat M = -1 then (0, 3, R) else (inR R n.toNat M, 0, updL R (inR R n.toNat M).toNat ((R (inR R n.toNat M).toNat).erase n.toNat)) else (0, 1, R)

def firstR (M : Nat) (R : Nat → List Nat) (i : Int) : Int := if 0 ≤ i ∧ i < M then hd (R i.toNat) else -1

/-- Pop: what it answers with, and the rows then. -/
def popR (M : Nat) (R : Nat → List Nat) (i : Int) : Int × (Nat → List Nat) :=
  if 0 ≤ i ∧ i < M then (hd (R i.toNat), updL R i.toNat (R i.toNat).tail) else (-1, R)

section
variable {w w' : World} {c bn bl N M : Nat} {vn vl : Value} {R : Nat → List Nat}

theorem Has.of_frm {S : Nat → Prop} (h : Has w c bn bl vn vl N M R) (hF : Frm S w w') (h1 : ¬ S c) (h2 : ¬ S bn) (h3 : ¬ S bl) : Has w' c bn bl vn vl N M R := by
  obtain ⟨s, a, b⟩ := h
  exact ⟨s, a.of_frm hF h1 h2 h3, b⟩
theorem Has.alloc (h : Has w c bn bl vn vl N M R) (o : Obj) : Has (w.alloc o) c bn bl vn vl N M R := by
  obtain ⟨s, a, b⟩ := h
  exact ⟨s, a.alloc o, b⟩

theorem len_le : ∀ (n : Nat) (l : List Nat), l.Nodup → (∀ i ∈ l, i < n) → l.length ≤ n
  | 0, l, _, h => by
    cases l with
    | nil => simp
    | cons a r => exact absurd (h a (by simp)) (by omega)
  | n + 1, l, hn, h => by
    by_cases hm : n ∈ l
    · have h1 := len_le n (l.erase n) (hn.erase n) (fun i hi => by
        have h2 := (hn.mem_erase_iff).1 hi
        have := h i h2.2
        have := h2.1
        omega)
      rw [List.length_erase_of_mem hm] at h1
      omega
    · have := len_le n l hn (fun i hi => by
        have := h i hi
        have : i ≠ n := by rintro rfl; exact hm hi
        omega)
      omega

theorem erase_mid {x : Nat} {l1 l2 : List Nat} (h : x ∉ l1) : (l1 ++ x :: l2).erase x = l1 ++ l2 := by
  rw [List.erase_append_right _ h, List.erase_cons_head]

theorem Has.push (h : Has w c bn bl vn vl N M R) (i n : Int) : Calls Try.prog 25 #[.pointer (some ⟨c, 0, none⟩), .int .i64 i, .int .i64 n] w
    fun r w' => r = .returned (.int .i64 (pushR N M R i n).1) ∧ Has w' c bn bl vn vl N M (pushR N M R i n).2 ∧ Frm (Two bn bl) w w' := by
  obtain ⟨s, hs, hr, rfl, rfl⟩ := h
  unfold pushR
  by_cases h1 : (0 ≤ i ∧ i < s.M) ∧ (0 ≤ n ∧ n < s.N)
  · rw [if_pos h1]
    obtain ⟨i, rfl⟩ := Int.eq_ofNat_of_zero_le h1.1.1
    obtain ⟨n, rfl⟩ := Int.eq_ofNat_of_zero_le h1.2.1
    have hi : i < s.M := by omega
    have hn : n < s.N := by omega
    simp only [Int.toNat_natCast]
    have he := inR_eq hr hn
    by_cases h2 : inR R n s.M = -1
    · rw [if_pos h2]
      have hrow := hr.row i hi
      have hlen := len_le s.N (R i) (hr.nodup i hi) (hr.lt i hi)
      have hm := hs.most
      refine (Push_yes c bn bl vn vl s w hs i n hi hn (he.trans h2) ?_ ?_).mono ?_
      · rw [hrow]
        by_cases e : R i = []
        · left; simp [e, lst]
        · right
          obtain ⟨l', a, h3, h4⟩ := lst_some e
          have := hr.lt i hi a (by rw [h3]; simp)
          simp only [h4]
          omega
      · rw [hrow]
        simp only []
        omega
      · rintro r w' ⟨rfl, h3, h4⟩
        have e : (s.push i n).M = s.M ∧ (s.push i n).N = s.N := by unfold Ch.push; simp only []; split <;> exact ⟨rfl, rfl⟩
        exact ⟨rfl, ⟨s.push i n, h3, hr.push hi hn (inR_none.1 h2), e.2, e.1⟩, h4⟩
    · rw [if_neg h2]
      refine (Push_twice c bn bl vn vl s w hs i n hi hn (by rw [he]; exact h2)).mono ?_
      rintro r w' ⟨rfl, rfl⟩
      exact ⟨rfl, ⟨s, hs, hr, rfl, rfl⟩, Frm.refl _ _⟩
  · rw [if_neg h1]
    refine (Push_arg c bn bl vn vl s w hs i n (by omega)).mono ?_
    rintro r w' ⟨rfl, rfl⟩
    exact ⟨rfl, ⟨s, hs, hr, rfl, rfl⟩, Frm.refl _ _⟩

theorem Has.remove (h : Has w c bn bl vn vl N M R) (n : Int) : Calls Try.prog 36 #[.pointer (some ⟨c, 0, none⟩), .int .i64 n] w
    fun r w' => r = .returned (.tuple #[.int .i64 (removeR N M R n).1, .int .i64 (removeR N M R n).2.1]) ∧ Has w' c bn bl vn vl N M (removeR N M R n).2.2 ∧ Frm (Two bn bl) w w' := by
  obtain ⟨s, hs, hr, rfl, rfl⟩ := h
  unfold removeR
  by_cases h1 : 0 ≤ n ∧ n < s.N
  · rw [if_pos h1]
    obtain ⟨x, rfl⟩ := Int.eq_ofNat_of_zero_le h1.1
    have hx : x < s.N := by omega
    simp only [Int.toNat_natCast]
    have he := inR_eq hr hx
    by_cases h2 : inR R x s.M = -1
    · rw [if_pos h2]
      refine (Remove_none c bn bl vn vl s w hs x hx (he.trans h2)).mono ?_
      rintro r w' ⟨rfl, rfl⟩
      exact ⟨rfl, ⟨s, hs, hr, rfl, rfl⟩, Frm.refl _ _⟩
    · rw [if_neg h2]
      obtain ⟨i, h3, hi, h4⟩ := inR_some h2
      rw [h3] at he ⊢
      simp only [Int.toNat_natCast]
      obtain ⟨l1, l2, h5, h6⟩ := List.eq_append_cons_of_mem h4
      have hdl := hr.dl i hi
      have hnd := hr.nodup i hi
      rw [h5] at hdl hnd
      have hat := hdl.at
      have hp : prv (-1) l1 = lst l1 := by unfold prv; split <;> rename_i e <;> simp [e, lst]
      rw [hp] at hat
      have hrow := hr.row i hi
      have hlen := len_le s.N (R i) (hr.nodup i hi) (hr.lt i hi)
      have hm := hs.most
      refine (Remove_yes c bn bl vn vl s w hs x i hx hi he ?_ ?_ ?_).mono ?_
      · rw [hat]
        by_cases e : l1 = []
        · left; simp [e, lst]
        · right
          obtain ⟨l', a, h7, h8⟩ := lst_some e
          refine ⟨a, h8, hr.lt i hi a (by rw [h5, h7]; simp), ?_⟩
          rintro rfl
          exact h6 (by rw [h7]; simp)
      · rw [hat]
        cases l2 with
        | nil => left; rfl
        | cons b r =>
          right
          refine ⟨b, rfl, hr.lt i hi b (by rw [h5]; simp), ?_⟩
          rintro rfl
          exact (List.nodup_cons.1 (List.nodup_append.1 hnd).2.1).1 (by simp)
      · rw [hrow]
        simp only []
        have : 0 < (R i).length := by rw [h5]; simp; omega
        omega
      · rintro r w' ⟨rfl, h7, h8⟩
        have e : (s.remove x).M = s.M ∧ (s.remove x).N = s.N := by unfold Ch.remove; simp only []; (repeat' split) <;> exact ⟨rfl, rfl⟩
        refine ⟨rfl, ⟨s.remove x, h7, ?_, e.2, e.1⟩, h8⟩
        have := hr.remove hi h5
        rw [h5, erase_mid h6]
        exact this
  · rw [if_neg h1]
    refine (Remove_arg c bn bl vn vl s w hs n h1).mono ?_
    rintro r w' ⟨rfl, rfl⟩
    exact ⟨rfl, ⟨s, hs, hr, rfl, rfl⟩, Frm.refl _ _⟩

theorem Has.first (h : Has w c bn bl vn vl N M R) (i : Int) : Calls Try.prog 35 #[.pointer (some ⟨c, 0, none⟩), .int .i64 i] w fun r w' => r = .returned (tld (firstR M R i)) ∧ w = w' := by
  obtain ⟨s, hs, hr, rfl, rfl⟩ := h
  have e : firstR s.M R i = s.firstOf i := by
    unfold firstR Ch.firstOf
    split
    · rename_i h1
      rw [hr.row i.toNat (by omega)]
    · rfl
  rw [e]
  exact First_any c bn bl vn vl s i w hs

/-- The one behind x; -1: none. -/
def behindR (N M : Nat) (R : Nat → List Nat) (x : Int) : Int :=
  if 0 ≤ x ∧ x < N ∧ inR R x.toNat M ≠ -1 then hd ((R (inR R x.toNat M).toNat).dropWhile (fun y => y != x.toNat)).tail else -1

theorem drop_mid {x : Nat} : ∀ {l1 l2 : List Nat}, x ∉ l1 → (l1 ++ x :: l2).dropWhile (fun y => y != x) = x :: l2
  | [], l2, _ => by simp
  | a :: r, l2, h => by
    have ha : (a != x) = true := by simp; rintro rfl; exact h (by simp)
    rw [List.cons_append, List.dropWhile_cons, if_pos ha]
    exact drop_mid (fun hm => h (by simp [hm]))

/-- Of rows in memory: the nodes of a row are in one row alone, and are nodes. -/
theorem Has.facts (h : Has w c bn bl vn vl N M R) : (∀ i, i < M → (R i).Nodup) ∧ (∀ i, i < M → ∀ x ∈ R i, x < N) ∧ (∀ i j x, i < M → j < M → x ∈ R i → x ∈ R j → i = j) ∧ (∀ i x, i < M → x ∈ R i → inR R x M = i) := by
  obtain ⟨s, hs, hr, rfl, rfl⟩ := h
  exact ⟨hr.nodup, hr.lt, fun i j x hi hj => hr.apart hi hj, fun i x hi => inR_in hr hi⟩

theorem Has.pop (h : Has w c bn bl vn vl N M R) (i : Int) : Calls Try.prog 32 #[.pointer (some ⟨c, 0, none⟩), .int .i64 i] w
    fun r w' => r = .returned (tld (popR M R i).1) ∧ Has w' c bn bl vn vl N M (popR M R i).2 ∧ Frm (Two bn bl) w w' := by
  obtain ⟨f1, f2, f3, f4⟩ := h.facts
  have H1 := Lib.hid (h.first i)
  have HH := Lib.hid h
  have e : (popR M R i).1 = firstR M R i := by unfold popR firstR; split <;> rfl
  rw [e]
  by_cases h0 : firstR M R i = -1
  · rw [h0] at H1 ⊢
    have e2 : Has w c bn bl vn vl N M (popR M R i).2 := by
      unfold popR
      unfold firstR at h0
      split
      · rename_i h1
        rw [if_pos h1] at h0
        have := hd_none.1 h0
        rw [this]
        have : updL R i.toNat [] = R := by
          funext j
          unfold updL
          split
          · rename_i e; subst e; exact (hd_none.1 h0).symm
          · rfl
        rw [List.tail_nil, this]
        exact h
      · exact h
    have HE := Lib.hid e2
    have e3 : tld (-1) = .tuple #[.int .i64 0, .bool false] := rfl
    rw [e3] at H1 ⊢
    clear h e e2 e3 h0 f1 f2 f3 f4
    go_enter Try.func32, Try.ntmps32
    go_wp2_with fail
    refine H1.out.mono ?_
    rintro r w' ⟨rfl, rfl⟩
    go_wp2_with fail
    go_ret2
    exact ⟨rfl, HE.out, Frm.refl _ _⟩
  · have h1 : 0 ≤ i ∧ i < M := by
      refine Classical.byContradiction fun h1 => h0 ?_
      unfold firstR
      rw [if_neg h1]
    obtain ⟨k, rfl⟩ := Int.eq_ofNat_of_zero_le h1.1
    have hk : k < M := by omega
    unfold firstR at h0 H1 ⊢
    rw [if_pos h1] at h0 H1 ⊢
    simp only [Int.toNat_natCast] at h0 H1 ⊢
    cases hR : R k with
    | nil => exact absurd (by rw [hR]; rfl) h0
    | cons x r =>
      rw [hR] at H1
      simp only [hd] at H1 ⊢
      have hx := f2 k hk x (by rw [hR]; simp)
      have hin := f4 k x hk (by rw [hR]; simp)
      have er : removeR N M R x = ((k : Int), (0 : Int), updL R k r) := by
        unfold removeR
        rw [if_pos (by omega), Int.toNat_natCast, hin, if_neg (by omega), Int.toNat_natCast, hR, List.erase_cons_head]
      have ep : (popR M R k).2 = updL R k r := by
        unfold popR
        rw [if_pos h1, Int.toNat_natCast, hR]
        rfl
      have H2 := Lib.hid (h.remove x)
      rw [er] at H2
      rw [ep]
      have hx1 : ((x : Int) != -1) = true := by simp
      have hx2 : max (x : Int) 0 = x := by omega
      unfold tld at H1 ⊢
      rw [hx1, hx2] at H1 ⊢
      clear h f1 f2 f3 f4 e h0 h1 hR hin er ep hx1 hx2 HH
      go_enter Try.func32, Try.ntmps32
      go_wp2_with fail
      refine H1.out.mono ?_
      rintro r w' ⟨rfl, rfl⟩
      go_wp2_with fail
      refine H2.out.mono ?_
      rintro r w2 ⟨rfl, h3, h4⟩
      go_wp2_with fail
      go_ret2
      exact ⟨rfl, h3, h4⟩
end
end Go.Proofs.Ytedhhohnbekelaa
