/- Tasks as numbers, and which may be (package table: within, May; the document's May). No condition. -/
import Derived.Test.YtedhhohnbekelaaN
namespace Go.Proofs.Ytedhhohnbekelaa
open Go.RowKit

/-- A task: its 29 numbers. -/
abbrev Tk := Nat → Int
def tkKind (o : Nat) : IntKind := if 2 ≤ o ∧ o ≤ 5 then .i32 else if 7 ≤ o ∧ o ≤ 22 then .u64 else .i64
def tkArr (t : Tk) : Array Value := ((List.range 29).map fun o => .int (tkKind o) (t o)).toArray
def tkV (t : Tk) : Value := .agg (tkArr t)

theorem tkArr_at (t : Tk) {o : Nat} (h : o < 29) : (tkArr t)[o]? = some (.int (tkKind o) (t o)) := by simp [tkArr, h]
theorem tkArr_size (t : Tk) : (tkArr t).size = 29 := by simp [tkArr]

def wi (n a b : Int) : Bool := decide (a ≤ n) && decide (n ≤ b)
theorem wi_t {n a b : Int} (h1 : a ≤ n) (h2 : n ≤ b) : wi n a b = true := by simp [wi, h1, h2]
theorem wi_f {n a b : Int} (h : n < a ∨ b < n) : wi n a b = false := by
  unfold wi
  by_cases h1 : a ≤ n
  · have : ¬ n ≤ b := by omega
    simp [this]
  · simp [h1]

def may (t : Tk) : Bool := wi (t 0) 0 15 && wi (t 6) 0 3 && wi (t 23) (-1) 1023 && wi (t 24) (-1) 31 && wi (t 25) 1 8 && wi (t 1) 0 63

theorem within_any (n a b : Int) (w : World) : Calls Try.prog 27 #[.int .i64 n, .int .i64 a, .int .i64 b] w fun r w' => r = .returned (.bool (wi n a b)) ∧ w = w' := by
  by_cases h1 : a ≤ n
  · by_cases h2 : n ≤ b
    · rw [wi_t h1 h2]
      go_enter Try.func27, Try.ntmps27
      go_wp2_with fail
      go_ret
      exact ⟨rfl, rfl⟩
    · rw [wi_f (by omega)]
      go_enter Try.func27, Try.ntmps27
      go_wp2_with fail
      go_ret
      exact ⟨rfl, rfl⟩
  · rw [wi_f (by omega)]
    go_enter Try.func27, Try.ntmps27
    go_wp2_with fail
    go_ret
    exact ⟨rfl, rfl⟩

/-- A task in a block of its own. -/
def TkAt (w : World) (A : Nat) (t : Tk) : Prop := ∀ o, o < 29 → w.cell? ⟨A, o, none⟩ = some (.int (tkKind o) (t o))

theorem tk_new (w : World) (t : Tk) (ty : TypeId) : TkAt (w.alloc (.cells (tkArr t) ty)) w.heap.size t := by
  intro o ho
  simp [tkArr_at t ho]

section
variable (t : Tk) (w : World)

set_option maxRecDepth 100000 in
theorem May_any : Calls Try.prog 16 #[tkV t] w fun r w' => r = .returned (.bool (may t)) ∧ Below w.heap.size w w' := by
  have H0 := Lib.hid (fun w => within_any (t 0) 0 15 w)
  have H1 := Lib.hid (fun w => within_any (t 6) 0 3 w)
  have H2 := Lib.hid (fun w => within_any (t 23) (-1) 1023 w)
  have H3 := Lib.hid (fun w => within_any (t 24) (-1) 31 w)
  have H4 := Lib.hid (fun w => within_any (t 25) 1 8 w)
  have H5 := Lib.hid (fun w => within_any (t 1) 0 63 w)
  have hA := tk_new w t 30
  have HB := Lib.hid ((Below.refl w.heap.size w).alloc (Nat.le_refl _) (.cells (tkArr t) 30))
  unfold may tkV
  obtain ⟨V, hV⟩ : ∃ V, tkArr t = V := ⟨_, rfl⟩
  rw [hV] at hA HB
  rw [hV]
  clear hV
  have c0 := hA 0 (by omega)
  have c1 := hA 6 (by omega)
  have c2 := hA 23 (by omega)
  have c3 := hA 24 (by omega)
  have c4 := hA 25 (by omega)
  have c5 := hA 1 (by omega)
  simp only [show tkKind 0 = .i64 from rfl, show tkKind 6 = .i64 from rfl, show tkKind 23 = .i64 from rfl, show tkKind 24 = .i64 from rfl, show tkKind 25 = .i64 from rfl, show tkKind 1 = .i64 from rfl] at c0 c1 c2 c3 c4 c5
  clear hA
  obtain ⟨b0, hb0⟩ : ∃ b, wi (t 0) 0 15 = b := ⟨_, rfl⟩
  rw [hb0] at H0
  obtain ⟨n0, hn0⟩ : ∃ n, t 0 = n := ⟨_, rfl⟩
  obtain ⟨b1, hb1⟩ : ∃ b, wi (t 6) 0 3 = b := ⟨_, rfl⟩
  rw [hb1] at H1
  obtain ⟨n1, hn1⟩ : ∃ n, t 6 = n := ⟨_, rfl⟩
  obtain ⟨b2, hb2⟩ : ∃ b, wi (t 23) (-1) 1023 = b := ⟨_, rfl⟩
  rw [hb2] at H2
  obtain ⟨n2, hn2⟩ : ∃ n, t 23 = n := ⟨_, rfl⟩
  obtain ⟨b3, hb3⟩ : ∃ b, wi (t 24) (-1) 31 = b := ⟨_, rfl⟩
  rw [hb3] at H3
  obtain ⟨n3, hn3⟩ : ∃ n, t 24 = n := ⟨_, rfl⟩
  obtain ⟨b4, hb4⟩ : ∃ b, wi (t 25) 1 8 = b := ⟨_, rfl⟩
  rw [hb4] at H4
  obtain ⟨n4, hn4⟩ : ∃ n, t 25 = n := ⟨_, rfl⟩
  obtain ⟨b5, hb5⟩ : ∃ b, wi (t 1) 0 63 = b := ⟨_, rfl⟩
  rw [hb5] at H5
  obtain ⟨n5, hn5⟩ : ∃ n, t 1 = n := ⟨_, rfl⟩
  rw [hb0, hb1, hb2, hb3, hb4, hb5]
  rw [hn0] at H0 c0
  rw [hn1] at H1 c1
  rw [hn2] at H2 c2
  rw [hn3] at H3 c3
  rw [hn4] at H4 c4
  rw [hn5] at H5 c5
  clear hb0 hn0 hb1 hn1 hb2 hn2 hb3 hn3 hb4 hn4 hb5 hn5
  go_enter Try.func16, Try.ntmps16
  go_upto_region 1 with fail
  obtain ⟨W, hW⟩ : ∃ W, w.alloc (.cells V 30) = W := ⟨_, rfl⟩
  obtain ⟨A, hA⟩ : ∃ A, w.heap.size = A := ⟨_, rfl⟩
  rw [hA] at c0 c1 c2 c3 c4 c5
  rw [hW] at c0 c1 c2 c3 c4 c5 HB
  rw [hW, hA]
  clear hW hA
  cases b0 with
  | false =>
    go_wp2_with fail
    refine (H0.out _).mono ?_; rintro r w' ⟨rfl, rfl⟩
    go_wp2_with fail
    go_ret
    exact ⟨rfl, HB.out⟩
  | true =>
    cases b1 with
    | false =>
      go_wp2_with fail
      refine (H0.out _).mono ?_; rintro r w' ⟨rfl, rfl⟩
      go_wp2_with fail
      refine (H1.out _).mono ?_; rintro r w' ⟨rfl, rfl⟩
      go_wp2_with fail
      go_ret
      exact ⟨rfl, HB.out⟩
    | true =>
      cases b2 with
      | false =>
        go_wp2_with fail
        refine (H0.out _).mono ?_; rintro r w' ⟨rfl, rfl⟩
        go_wp2_with fail
        refine (H1.out _).mono ?_; rintro r w' ⟨rfl, rfl⟩
        go_wp2_with fail
        refine (H2.out _).mono ?_; rintro r w' ⟨rfl, rfl⟩
        go_wp2_with fail
        go_ret
        exact ⟨rfl, HB.out⟩
      | true =>
        cases b3 with
        | false =>
          go_wp2_with fail
          refine (H0.out _).mono ?_; rintro r w' ⟨rfl, rfl⟩
          go_wp2_with fail
          refine (H1.out _).mono ?_; rintro r w' ⟨rfl, rfl⟩
          go_wp2_with fail
          refine (H2.out _).mono ?_; rintro r w' ⟨rfl, rfl⟩
          go_wp2_with fail
          refine (H3.out _).mono ?_; rintro r w' ⟨rfl, rfl⟩
          go_wp2_with fail
          go_ret
          exact ⟨rfl, HB.out⟩
        | true =>
          cases b4 with
          | false =>
            go_wp2_with fail
            refine (H0.out _).mono ?_; rintro r w' ⟨rfl, rfl⟩
            go_wp2_with fail
            refine (H1.out _).mono ?_; rintro r w' ⟨rfl, rfl⟩
            go_wp2_with fail
            refine (H2.out _).mono ?_; rintro r w' ⟨rfl, rfl⟩
            go_wp2_with fail
            refine (H3.out _).mono ?_; rintro r w' ⟨rfl, rfl⟩
            go_wp2_with fail
            refine (H4.out _).mono ?_; rintro r w' ⟨rfl, rfl⟩
            go_wp2_with fail
            go_ret
            exact ⟨rfl, HB.out⟩
          | true =>
            cases b5 with
            | false =>
              go_wp2_with fail
              refine (H0.out _).mono ?_; rintro r w' ⟨rfl, rfl⟩
              go_wp2_with fail
              refine (H1.out _).mono ?_; rintro r w' ⟨rfl, rfl⟩
              go_wp2_with fail
              refine (H2.out _).mono ?_; rintro r w' ⟨rfl, rfl⟩
              go_wp2_with fail
              refine (H3.out _).mono ?_; rintro r w' ⟨rfl, rfl⟩
              go_wp2_with fail
              refine (H4.out _).mono ?_; rintro r w' ⟨rfl, rfl⟩
              go_wp2_with fail
              refine (H5.out _).mono ?_; rintro r w' ⟨rfl, rfl⟩
              go_wp2_with fail
              go_ret
              exact ⟨rfl, HB.out⟩
            | true =>
              go_wp2_with fail
              refine (H0.out _).mono ?_
              rintro r w' ⟨rfl, rfl⟩
              go_wp2_with fail
              refine (H1.out _).mono ?_
              rintro r w' ⟨rfl, rfl⟩
              go_wp2_with fail
              refine (H2.out _).mono ?_
              rintro r w' ⟨rfl, rfl⟩
              go_wp2_with fail
              refine (H3.out _).mono ?_
              rintro r w' ⟨rfl, rfl⟩
              go_wp2_with fail
              refine (H4.out _).mono ?_
              rintro r w' ⟨rfl, rfl⟩
              go_wp2_with fail
              refine (H5.out _).mono ?_
              rintro r w' ⟨rfl, rfl⟩
              go_wp2_with fail
              go_ret
              exact ⟨rfl, HB.out⟩

set_option maxRecDepth 100000 in
set_option maxHeartbeats 4000000 in
theorem refMay_any : Calls Try.prog 17 #[tkV t] w fun r w' => r = .returned (.bool (may t)) ∧ Below w.heap.size w w' := by
  have hA := tk_new w t 30
  have HB := Lib.hid ((Below.refl w.heap.size w).alloc (Nat.le_refl _) (.cells (tkArr t) 30))
  unfold may tkV
  obtain ⟨V, hV⟩ : ∃ V, tkArr t = V := ⟨_, rfl⟩
  rw [hV] at hA HB
  rw [hV]
  clear hV
  have c0 := hA 0 (by omega)
  have c1 := hA 6 (by omega)
  have c2 := hA 23 (by omega)
  have c3 := hA 24 (by omega)
  have c4 := hA 25 (by omega)
  have c5 := hA 1 (by omega)
  simp only [show tkKind 0 = .i64 from rfl, show tkKind 6 = .i64 from rfl, show tkKind 23 = .i64 from rfl, show tkKind 24 = .i64 from rfl, show tkKind 25 = .i64 from rfl, show tkKind 1 = .i64 from rfl] at c0 c1 c2 c3 c4 c5
  clear hA
  obtain ⟨n0, hn0⟩ : ∃ n, t 0 = n := ⟨_, rfl⟩
  obtain ⟨n1, hn1⟩ : ∃ n, t 6 = n := ⟨_, rfl⟩
  obtain ⟨n2, hn2⟩ : ∃ n, t 23 = n := ⟨_, rfl⟩
  obtain ⟨n3, hn3⟩ : ∃ n, t 24 = n := ⟨_, rfl⟩
  obtain ⟨n4, hn4⟩ : ∃ n, t 25 = n := ⟨_, rfl⟩
  obtain ⟨n5, hn5⟩ : ∃ n, t 1 = n := ⟨_, rfl⟩
  rw [hn0, hn1, hn2, hn3, hn4, hn5]
  rw [hn0] at c0
  rw [hn1] at c1
  rw [hn2] at c2
  rw [hn3] at c3
  rw [hn4] at c4
  rw [hn5] at c5
  clear hn0 hn1 hn2 hn3 hn4 hn5
  go_enter Try.func17, Try.ntmps17
  go_upto_region 1 with fail
  obtain ⟨W, hW⟩ : ∃ W, w.alloc (.cells V 30) = W := ⟨_, rfl⟩
  obtain ⟨A, hA⟩ : ∃ A, w.heap.size = A := ⟨_, rfl⟩
  rw [hA] at c0 c1 c2 c3 c4 c5
  rw [hW] at c0 c1 c2 c3 c4 c5 HB
  rw [hW, hA]
  clear hW hA
  by_cases h0 : 0 ≤ n0
  · by_cases g0 : n0 ≤ 15
    · by_cases h1 : 0 ≤ n1
      · by_cases g1 : n1 ≤ 3
        · by_cases h2 : (-1) ≤ n2
          · by_cases g2 : n2 ≤ 1023
            · by_cases h3 : (-1) ≤ n3
              · by_cases g3 : n3 ≤ 31
                · by_cases h4 : 1 ≤ n4
                  · by_cases g4 : n4 ≤ 8
                    · by_cases h5 : 0 ≤ n5
                      · by_cases g5 : n5 ≤ 63
                        · go_wp2_with fail
                          go_ret
                          exact ⟨by rw [wi_t h0 g0, wi_t h1 g1, wi_t h2 g2, wi_t h3 g3, wi_t h4 g4, wi_t h5 g5]; first | rfl | (simp; done) | (simp; omega), HB.out⟩
                        · go_wp2_with fail
                          go_ret
                          exact ⟨by rw [wi_t h0 g0, wi_t h1 g1, wi_t h2 g2, wi_t h3 g3, wi_t h4 g4, wi_f (n := n5) (a := 0) (b := 63) (by omega)]; first | rfl | (simp; done) | (simp; omega), HB.out⟩
                      · go_wp2_with fail
                        go_ret
                        exact ⟨by rw [wi_t h0 g0, wi_t h1 g1, wi_t h2 g2, wi_t h3 g3, wi_t h4 g4, wi_f (n := n5) (a := 0) (b := 63) (by omega)]; first | rfl | (simp; done) | (simp; omega), HB.out⟩
                    · go_wp2_with fail
                      go_ret
                      exact ⟨by rw [wi_t h0 g0, wi_t h1 g1, wi_t h2 g2, wi_t h3 g3, wi_f (n := n4) (a := 1) (b := 8) (by omega)]; first | rfl | (simp; done) | (simp; omega), HB.out⟩
                  · go_wp2_with fail
                    go_ret
                    exact ⟨by rw [wi_t h0 g0, wi_t h1 g1, wi_t h2 g2, wi_t h3 g3, wi_f (n := n4) (a := 1) (b := 8) (by omega)]; first | rfl | (simp; done) | (simp; omega), HB.out⟩
                · go_wp2_with fail
                  go_ret
                  exact ⟨by rw [wi_t h0 g0, wi_t h1 g1, wi_t h2 g2, wi_f (n := n3) (a := (-1)) (b := 31) (by omega)]; first | rfl | (simp; done) | (simp; omega), HB.out⟩
              · go_wp2_with fail
                go_ret
                exact ⟨by rw [wi_t h0 g0, wi_t h1 g1, wi_t h2 g2, wi_f (n := n3) (a := (-1)) (b := 31) (by omega)]; first | rfl | (simp; done) | (simp; omega), HB.out⟩
            · go_wp2_with fail
              go_ret
              exact ⟨by rw [wi_t h0 g0, wi_t h1 g1, wi_f (n := n2) (a := (-1)) (b := 1023) (by omega)]; first | rfl | (simp; done) | (simp; omega), HB.out⟩
          · go_wp2_with fail
            go_ret
            exact ⟨by rw [wi_t h0 g0, wi_t h1 g1, wi_f (n := n2) (a := (-1)) (b := 1023) (by omega)]; first | rfl | (simp; done) | (simp; omega), HB.out⟩
        · go_wp2_with fail
          go_ret
          exact ⟨by rw [wi_t h0 g0, wi_f (n := n1) (a := 0) (b := 3) (by omega)]; first | rfl | (simp; done) | (simp; omega), HB.out⟩
      · go_wp2_with fail
        go_ret
        exact ⟨by rw [wi_t h0 g0, wi_f (n := n1) (a := 0) (b := 3) (by omega)]; first | rfl | (simp; done) | (simp; omega), HB.out⟩
    · go_wp2_with fail
      go_ret
      exact ⟨by rw [wi_f (n := n0) (a := 0) (b := 15) (by omega)]; first | rfl | (simp; done) | (simp; omega), HB.out⟩
  · go_wp2_with fail
    go_ret
    exact ⟨by rw [wi_f (n := n0) (a := 0) (b := 15) (by omega)]; first | rfl | (simp; done) | (simp; omega), HB.out⟩

end
end Go.Proofs.Ytedhhohnbekelaa
