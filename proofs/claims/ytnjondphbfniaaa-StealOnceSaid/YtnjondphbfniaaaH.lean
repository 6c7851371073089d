/- Contracts of the row's own functions (package steal): begin, Push, Pop, Steal, Busy, Len. No condition. -/
import Derived.Test.YtnjondphbfniaaaG
namespace Go.Proofs.Ytnjondphbfniaaa
open Go.RowKit

theorem IsDq.put6 {w : World} {b pb cap : Nat} {d : Dq} (h : IsDq w b pb cap d) {i : Nat} (hi : i < d.n) (p : Pt) :
    IsDq ((((((w.setCell ⟨pb, i * 6, none⟩ (.int .i64 p.call)).setCell ⟨pb, i * 6 + 1, none⟩ (.int .i64 p.step)).setCell ⟨pb, i * 6 + 2, none⟩ (.int .i64 p.b)).setCell ⟨pb, i * 6 + 3, none⟩ (.int .i64 p.t)).setCell ⟨pb, i * 6 + 4, none⟩ (.int .i64 p.x)).setCell ⟨pb, i * 6 + 5, none⟩ (.bool p.won)) b pb cap (d.setP i p) := by
  have hn := h.apart
  refine ⟨(((((h.top.other hn _ _).other hn _ _).other hn _ _).other hn _ _).other hn _ _).other hn _ _, ?_, hn⟩
  refine ((((((h.parts.set _ _).set _ _).set _ _).set _ _).set _ _).set _ _).congr fun o ho => ?_
  unfold encP
  by_cases e : o / 6 = i
  · have hk : o % 6 = 0 ∨ o % 6 = 1 ∨ o % 6 = 2 ∨ o % 6 = 3 ∨ o % 6 = 4 ∨ o % 6 = 5 := by omega
    rcases hk with hk | hk | hk | hk | hk | hk <;> obtain rfl : o = i * 6 + _ := (by omega : o = i * 6 + o % 6).trans (by rw [hk]) <;> rw [hk] <;> simp [upd, Dq.setP, e, Pt.cell]
  · have h0 : ∀ j, j < 6 → ¬ o = i * 6 + j := fun j hj => by omega
    simp only [upd, h0 5 (by omega), h0 4 (by omega), h0 3 (by omega), h0 2 (by omega), h0 1 (by omega), show ¬ o = i * 6 from h0 0 (by omega), if_false, Dq.setP, e]

theorem Frm.pd6 {a w : World} {b pb : Nat} (h : Frm (Both b pb) a w) (o : Nat) (v0 v1 v2 v3 v4 v5 : Value) :
    Frm (Both b pb) a ((((((w.setCell ⟨pb, o, none⟩ v0).setCell ⟨pb, o + 1, none⟩ v1).setCell ⟨pb, o + 2, none⟩ v2).setCell ⟨pb, o + 3, none⟩ v3).setCell ⟨pb, o + 4, none⟩ v4).setCell ⟨pb, o + 5, none⟩ v5) :=
  (((((h.pd _ _).pd _ _).pd _ _).pd _ _).pd _ _).pd _ _

theorem ret_int {k : IntKind} {a b : Int} (h : a = b) : Ending.returned (.int k a) = .returned (.int k b) := by rw [h]

section
variable {b pb cap : Nat} {d : Dq} {w : World}

theorem begin_any (h : IsDq w b pb cap d) (hn : d.n ≤ 9) (who c x : Int) :
    Calls Try.prog 25 #[.pointer (some ⟨b, 0, none⟩), .int .i64 who, .int .i64 c, .int .i64 x] w
      fun r w' => r = .returned (.int .i64 (d.begin who c x).1) ∧ IsDq w' b pb cap (d.begin who c x).2 ∧ Frm (Both b pb) w w' := by
  have H := Lib.hid h
  unfold Dq.begin
  cases hh : d.has who with
  | false =>
    rw [if_neg (by simp)]
    have hno : who < 0 ∨ (d.n : Int) ≤ who := by
      have : ¬ (0 ≤ who ∧ who < d.n) := fun hc => by rw [Dq.has_iff.2 hc] at hh; cases hh
      omega
    have HA := Lib.hid (at_no b pb cap d who w h hno)
    clear h hh hno
    go_enter Try.func25, Try.ntmps25
    go_wp2_with fail
    refine HA.out.mono ?_
    rintro r w' ⟨rfl, rfl⟩
    go_wp2_with fail
    go_ret
    exact ⟨rfl, H.out, Frm.refl _ _⟩
  | true =>
    rw [if_pos rfl]
    obtain ⟨h0, h1⟩ := Dq.has_iff.1 hh
    obtain ⟨i, rfl⟩ := Int.eq_ofNat_of_zero_le h0
    have hi : i < d.n := by omega
    rw [Int.toNat_natCast]
    have HA := Lib.hid (at_ok b pb cap d i w h hi hn)
    obtain ⟨p0, p1, p2, p3, p4, p5⟩ := h.party hi
    have fp := h.fp
    by_cases hc : (d.ps i).call = 0
    · rw [if_pos hc]
      rw [hc] at p0
      have HX := Lib.hid (h.put6 hi { Pt.none with call := c, step := 1, x := x })
      have HC := Lib.hid hc
      clear h hh h0 h1 hc
      go_enter Try.func25, Try.ntmps25
      go_wp2_with fail
      refine HA.out.mono ?_
      rintro r w' ⟨rfl, rfl⟩
      go_wp2_with fail
      go_ret
      exact ⟨rfl, HX.out, (Frm.refl _ _).pd6 _ _ _ _ _ _ _⟩
    · rw [if_neg hc]
      have hc' : ((d.ps i).call != 0) = true := by simpa using hc
      have HC := Lib.hid hc
      clear h hh h0 h1 hc
      go_enter Try.func25, Try.ntmps25
      go_wp2_with fail
      refine HA.out.mono ?_
      rintro r w' ⟨rfl, rfl⟩
      go_wp2_with fail
      go_ret
      exact ⟨rfl, H.out, Frm.refl _ _⟩

theorem begin_nil (who c x : Int) (w : World) : Calls Try.prog 25 #[.pointer none, .int .i64 who, .int .i64 c, .int .i64 x] w fun r w' => r = .returned (.int .i64 1) ∧ w = w' := by
  go_enter Try.func25, Try.ntmps25
  go_wp2_with fail
  refine (at_nil _ _).mono ?_
  rintro r w' ⟨rfl, rfl⟩
  go_wp2_with fail
  go_ret
  exact ⟨rfl, rfl⟩

theorem Push_any (h : IsDq w b pb cap d) (hn : d.n ≤ 9) (x : Int) :
    Calls Try.prog 15 #[.pointer (some ⟨b, 0, none⟩), .int .i64 x] w
      fun r w' => r = .returned (.int .i64 (d.begin 0 1 x).1) ∧ IsDq w' b pb cap (d.begin 0 1 x).2 ∧ Frm (Both b pb) w w' := by
  have H := Lib.hid (begin_any h hn 0 1 x)
  generalize d.begin 0 1 x = q at *
  obtain ⟨q1, q2⟩ := q
  simp only at H ⊢
  clear h
  go_enter Try.func15, Try.ntmps15
  go_wp2_with fail
  refine H.out.mono ?_
  rintro r w' ⟨rfl, h2, hF⟩
  go_wp2_with fail
  go_ret
  exact ⟨rfl, h2, hF⟩

theorem Push_nil (x : Int) (w : World) : Calls Try.prog 15 #[.pointer none, .int .i64 x] w fun r w' => r = .returned (.int .i64 1) ∧ w = w' := by
  go_enter Try.func15, Try.ntmps15
  go_wp2_with fail
  refine (begin_nil _ _ _ _).mono ?_
  rintro r w' ⟨rfl, rfl⟩
  go_wp2_with fail
  go_ret
  exact ⟨rfl, rfl⟩

theorem Pop_any (h : IsDq w b pb cap d) (hn : d.n ≤ 9) :
    Calls Try.prog 18 #[.pointer (some ⟨b, 0, none⟩)] w
      fun r w' => r = .returned (.int .i64 (d.begin 0 2 0).1) ∧ IsDq w' b pb cap (d.begin 0 2 0).2 ∧ Frm (Both b pb) w w' := by
  have H := Lib.hid (begin_any h hn 0 2 0)
  generalize d.begin 0 2 0 = q at *
  obtain ⟨q1, q2⟩ := q
  simp only at H ⊢
  clear h
  go_enter Try.func18, Try.ntmps18
  go_wp2_with fail
  refine H.out.mono ?_
  rintro r w' ⟨rfl, h2, hF⟩
  go_wp2_with fail
  go_ret
  exact ⟨rfl, h2, hF⟩

/-- A steal is begun. -/
def Dq.theft (d : Dq) (who : Int) : Int × Dq := if who = 0 then (1, d) else d.begin who 3 0

theorem Steal_any (h : IsDq w b pb cap d) (hn : d.n ≤ 9) (who : Int) :
    Calls Try.prog 19 #[.pointer (some ⟨b, 0, none⟩), .int .i64 who] w
      fun r w' => r = .returned (.int .i64 (d.theft who).1) ∧ IsDq w' b pb cap (d.theft who).2 ∧ Frm (Both b pb) w w' := by
  unfold Dq.theft
  by_cases h0 : who = 0
  · rw [if_pos h0]
    subst h0
    have HH := Lib.hid h
    clear h
    go_enter Try.func19, Try.ntmps19
    go_wp2_with fail
    go_ret
    exact ⟨rfl, HH.out, Frm.refl _ _⟩
  · rw [if_neg h0]
    have h1 : (who == 0) = false := by simpa using h0
    have H0 := Lib.hid h0
    have H := Lib.hid (begin_any h hn who 3 0)
    generalize d.begin who 3 0 = q at *
    obtain ⟨q1, q2⟩ := q
    simp only at H ⊢
    clear h h0
    go_enter Try.func19, Try.ntmps19
    go_wp2_with fail
    refine H.out.mono ?_
    rintro r w' ⟨rfl, h2, hF⟩
    go_wp2_with fail
    go_ret
    exact ⟨rfl, h2, hF⟩

def Dq.busy (d : Dq) (who : Int) : Bool := d.has who && (d.ps who.toNat).call != 0

theorem Busy_any (h : IsDq w b pb cap d) (hn : d.n ≤ 9) (who : Int) :
    Calls Try.prog 10 #[.pointer (some ⟨b, 0, none⟩), .int .i64 who] w fun r w' => r = .returned (.bool (d.busy who)) ∧ w = w' := by
  unfold Dq.busy
  cases hh : d.has who with
  | false =>
    have hno : who < 0 ∨ (d.n : Int) ≤ who := by
      have : ¬ (0 ≤ who ∧ who < d.n) := fun hc => by rw [Dq.has_iff.2 hc] at hh; cases hh
      omega
    have HA := Lib.hid (at_no b pb cap d who w h hno)
    rw [Bool.false_and]
    clear h hh hno
    go_enter Try.func10, Try.ntmps10
    go_wp2_with fail
    refine HA.out.mono ?_
    rintro r w' ⟨rfl, rfl⟩
    go_wp2_with fail
    go_ret
    exact ⟨rfl, rfl⟩
  | true =>
    obtain ⟨h0, h1⟩ := Dq.has_iff.1 hh
    obtain ⟨i, rfl⟩ := Int.eq_ofNat_of_zero_le h0
    have hi : i < d.n := by omega
    have HA := Lib.hid (at_ok b pb cap d i w h hi hn)
    have p0 := (h.party hi).1
    rw [Bool.true_and, Int.toNat_natCast]
    generalize (d.ps i).call = c at *
    clear h hh h0 h1
    go_enter Try.func10, Try.ntmps10
    go_wp2_with fail
    refine HA.out.mono ?_
    rintro r w' ⟨rfl, rfl⟩
    go_wp2_with fail
    go_ret
    exact ⟨rfl, rfl⟩

theorem Busy_nil (who : Int) (w : World) : Calls Try.prog 10 #[.pointer none, .int .i64 who] w fun r w' => r = .returned (.bool false) ∧ w = w' := by
  go_enter Try.func10, Try.ntmps10
  go_wp2_with fail
  refine (at_nil _ _).mono ?_
  rintro r w' ⟨rfl, rfl⟩
  go_wp2_with fail
  go_ret
  exact ⟨rfl, rfl⟩

def Dq.len (d : Dq) : Int := max (d.bottom - d.top) 0

theorem Len_any (h : IsDq w b pb cap d) {K : Nat} (ok : d.Ok K) (hK : K ≤ 100000) :
    Calls Try.prog 9 #[.pointer (some ⟨b, 0, none⟩)] w fun r w' => r = .returned (.int .i64 d.len) ∧ ∃ k, w' = w.drewN k := by
  have c0 := h.c0
  have c1 := h.c1
  have ht := ok.top
  have hb := ok.bottom
  unfold Dq.len
  generalize d.top = T at *
  generalize d.bottom = B at *
  clear h ok
  go_enter Try.func9, Try.ntmps9
  go_wp2_with fail
  go_quiet (fail)
  go_wp2_with fail
  all_goals
    go_ret
    exact ⟨ret_int (by omega), nq, rfl⟩

theorem Len_nil (w : World) : Calls Try.prog 9 #[.pointer none] w fun r w' => r = .returned (.int .i64 0) ∧ w = w' := by
  go_enter Try.func9, Try.ntmps9
  go_wp2_with fail
  go_ret
  exact ⟨rfl, rfl⟩
end
end Go.Proofs.Ytnjondphbfniaaa
