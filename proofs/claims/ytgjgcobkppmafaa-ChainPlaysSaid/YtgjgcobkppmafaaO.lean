/- A part of the proof of ChainMany: the document's example, and the walk of the law. No condition. -/
import Derived.Test.YtgjgcobkppmafaaN
namespace Go.Proofs.Ytgjgcobkppmafaa
open Go.RowKit

theorem two_below {bn bl : Nat} {w a a' : World} (h : Below w.heap.size w a) (h1 : w.heap.size ≤ bn) (h2 : w.heap.size ≤ bl) (hF : Frm (Two bn bl) a a') : Below w.heap.size w a' :=
  h.trans (hF.below h.size (fun j hj => by unfold Two; omega))

theorem lives_any (w : World) : Calls Try.prog 10 #[] w fun r w' => r = .returned (.bool true) ∧ Below w.heap.size w w' := by
  go_enter Try.func10, Try.ntmps10
  go_wp2_with fail
  refine (New_any 4 2 _ (by omega) (by omega) (by omega) (by omega)).mono ?_
  rintro r w1 ⟨c, bn, bl, vn, vl, rfl, -, hn, hl, h1, hB1⟩
  have H1 := Lib.hid (show Has w1 c bn bl vn vl 4 2 (fun _ => []) from h1)
  have HB1 := Lib.hid hB1
  clear h1 hB1
  go_wp2_with fail
  refine (H1.out.push 0 3).mono ?_
  rintro r w2 ⟨rfl, h2, hF⟩
  obtain ⟨R2, hR2⟩ : ∃ R2, (pushR 4 2 (fun _ => []) 0 3) = (0, R2) := ⟨_, rfl⟩
  have E2 := Lib.hid (show R2 = updL (fun _ => []) 0 [3] from (congrArg Prod.snd hR2).symm)
  rw [hR2] at h2 ⊢
  have H2 := Lib.hid h2
  have HB2 := Lib.hid (two_below HB1.out hn hl hF)
  clear h2 hF hR2 H1 HB1
  go_wp2_with fail
  refine (H2.out.push 0 1).mono ?_
  rintro r w3 ⟨rfl, h3, hF⟩
  obtain ⟨R3, hR3⟩ : ∃ R3, (pushR 4 2 R2 0 1) = (0, R3) := ⟨updL R2 0 [3, 1], by rw [E2.out]; rfl⟩
  have E3 := Lib.hid (show R3 = updL (updL (fun _ => []) 0 [3]) 0 [3, 1] by rw [E2.out] at hR3; exact (congrArg Prod.snd hR3).symm)
  rw [hR3] at h3 ⊢
  have H3 := Lib.hid h3
  have HB3 := Lib.hid (two_below HB2.out hn hl hF)
  clear h3 hF hR3 H2 HB2
  go_wp2_with fail
  refine (H3.out.push 1 3).mono ?_
  rintro r w4 ⟨rfl, h4, hF⟩
  have hR4 : (pushR 4 2 R3 1 3) = (9, R3) := by rw [E3.out]; rfl
  rw [hR4] at h4 ⊢
  have H4 := Lib.hid h4
  have HB4 := Lib.hid (two_below HB3.out hn hl hF)
  clear h4 hF hR4 H3 HB3
  go_wp2_with fail
  refine (H4.out.remove 3).mono ?_
  rintro r w5 ⟨rfl, h5, hF⟩
  obtain ⟨R5, hR5⟩ : ∃ R5, (removeR 4 2 R3 3) = (0, 0, R5) := ⟨updL R3 0 [1], by rw [E3.out]; rfl⟩
  have E5 := Lib.hid (show R5 = updL (updL (updL (fun _ => []) 0 [3]) 0 [3, 1]) 0 [1] by rw [E3.out] at hR5; exact (congrArg (fun x => x.2.2) hR5).symm)
  rw [hR5] at h5 ⊢
  have H5 := Lib.hid h5
  have HB5 := Lib.hid (two_below HB4.out hn hl hF)
  clear h5 hF hR5 H4 HB4
  go_wp2_with fail
  refine (H5.out.pop 0).mono ?_
  rintro r w6 ⟨rfl, h6, hF⟩
  have hR6 : (popR 2 R5 0).1 = 1 := by rw [E5.out]; rfl
  have et : tld 1 = .tuple #[.int .i64 1, .bool true] := rfl
  rw [hR6, et]
  have HB6 := Lib.hid (two_below HB5.out hn hl hF)
  clear h6 hF hR6 H5 HB5 et
  go_wp2_with fail
  go_ret
  exact ⟨rfl, HB6.out⟩

theorem Count_any (n : Int) (w : World) : Calls Try.prog 8 #[.int .i64 n] w fun r w' => r = .returned (.int .i64 (cntOf n : Nat)) ∧ w = w' := by
  have hc : ((cntOf n : Nat) : Int) = max 0 (min n 4096) := by unfold cntOf; omega
  rw [hc]
  clear hc
  by_cases ha : n < 0
  · have e : max 0 (min n 4096) = 0 := by omega
    rw [e]
    go_enter Try.func8, Try.ntmps8
    go_wp2
    all_goals go_ret
    all_goals exact ⟨rfl, rfl⟩
  · by_cases hb : 4096 < n
    · have e : max 0 (min n 4096) = 4096 := by omega
      rw [e]
      go_enter Try.func8, Try.ntmps8
      go_wp2
      all_goals go_ret
      all_goals exact ⟨rfl, rfl⟩
    · have e : max 0 (min n 4096) = n := by omega
      rw [e]
      go_enter Try.func8, Try.ntmps8
      go_wp2
      all_goals go_ret
      all_goals exact ⟨rfl, rfl⟩

theorem many_any (n m : Int) (w : World) (h0 : -9223372036854775808 ≤ n) (h1 : n ≤ 9223372036854775807) (h2 : -9223372036854775808 ≤ m) (h3 : m ≤ 9223372036854775807) :
    Calls Try.prog 3 #[.int .i64 n, .int .i64 m] w fun r w' => r = .returned (.bool true) ∧ Below w.heap.size w w' := by
  have hN : cntOf n ≤ 4096 := by unfold cntOf; omega
  have hM : cntOf m ≤ 4096 := by unfold cntOf; omega
  have HN := Lib.hid (New_any n m w h0 h1 h2 h3)
  have HC1 := Lib.hid (fun w => Count_any n w)
  have HC2 := Lib.hid (fun w => Count_any m w)
  generalize cntOf n = N at *
  generalize cntOf m = M at *
  go_enter Try.func3, Try.ntmps3
  go_wp2_with fail
  refine HN.out.mono ?_
  rintro r w1 ⟨c, bn, bl, vn, vl, rfl, -, hn, hl, h1, hB1⟩
  have H1 := Lib.hid h1
  have HB1 := Lib.hid hB1
  clear h1 hB1 HN
  go_wp2_with fail
  refine (HC1.out _).mono ?_
  rintro r w' ⟨rfl, rfl⟩
  go_wp2_with fail
  refine (HC2.out _).mono ?_
  rintro r w' ⟨rfl, rfl⟩
  obtain ⟨q, hq⟩ : ∃ q : Int, q = if N = 0 ∨ M = 0 then 1 else 0 := ⟨_, rfl⟩
  obtain ⟨R2, hR2⟩ : ∃ R2, pushR N M (fun _ => []) (M - 1) (N - 1) = (q, R2) := by
    unfold pushR
    by_cases hz : N = 0 ∨ M = 0
    · rw [if_neg (by omega), hq, if_pos hz]; exact ⟨_, rfl⟩
    · have hn : inR (fun _ => ([] : List Nat)) ((N : Int) - 1).toNat M = -1 := inR_none.2 (fun i _ => by simp)
      rw [if_pos (by omega), hn, if_pos rfl, hq, if_neg hz]; exact ⟨_, rfl⟩
  have HQ := Lib.hid hq
  have HR2 := Lib.hid hR2
  have e3 := Lib.hid (show pushR N M R2 M 0 = (1, R2) by unfold pushR; rw [if_neg (by omega)])
  have e4 := Lib.hid (show pushR N M R2 0 N = (1, R2) by unfold pushR; rw [if_neg (by omega)])
  clear hq hR2
  have hF1 : ∀ (a a' : World), Below w.heap.size w a → Frm (Two bn bl) a a' → Below w.heap.size w a' := fun _ _ h hF => two_below h hn hl hF
  have HF := Lib.hid hF1
  clear hF1
  obtain ⟨x, hx⟩ : ∃ x : Int, x = N := ⟨_, rfl⟩
  obtain ⟨y, hy⟩ : ∃ y : Int, y = M := ⟨_, rfl⟩
  have HX := Lib.hid hx
  have HY := Lib.hid hy
  have hq0 : (q = 1 ∧ x = 0) ∨ (q = 1 ∧ x ≠ 0 ∧ y = 0) ∨ (q = 0 ∧ x ≠ 0 ∧ y ≠ 0) := by
    have := HQ.out
    by_cases hz : N = 0 ∨ M = 0
    · rw [if_pos hz] at this; omega
    · rw [if_neg hz] at this; omega
  have P1 := Lib.hid (H1.out.push (M - 1) (N - 1))
  rw [HR2.out] at P1
  have P2 := Lib.hid (fun w2 (h : Has w2 c bn bl vn vl N M R2) => by have := h.push M 0; rw [e3.out] at this; exact this)
  have P3 := Lib.hid (fun w2 (h : Has w2 c bn bl vn vl N M R2) => by have := h.push 0 N; rw [e4.out] at this; exact this)
  rw [← hx] at P1 P3
  rw [← hy] at P1 P2
  rw [← hx, ← hy]
  have bx : 0 ≤ x ∧ x ≤ 4096 := by omega
  have by' : 0 ≤ y ∧ y ≤ 4096 := by omega
  clear hx hy hN hM HC1 HC2 HR2 e3 e4
  rcases hq0 with ⟨rfl, h5⟩ | ⟨rfl, h5, h6⟩ | ⟨rfl, h5, h6⟩
  · subst h5
    go_wp2_with fail
    refine P1.out.mono ?_
    rintro r w2 ⟨rfl, h2, hF2⟩
    go_wp2_with fail
    refine (P2.out _ h2).mono ?_
    rintro r w3 ⟨rfl, h3, hF3⟩
    go_wp2_with fail
    refine (P3.out _ h3).mono ?_
    rintro r w4 ⟨rfl, h4, hF4⟩
    have HB4 := Lib.hid (HF.out _ _ (HF.out _ _ (HF.out _ _ HB1.out hF2) hF3) hF4)
    have hs := HB4.out.size
    go_wp2_with fail
    refine (lives_any _).mono ?_
    rintro r w5 ⟨rfl, hb5⟩
    go_wp2_with fail
    go_ret
    exact ⟨rfl, HB4.out.trans (hb5.mono hs)⟩
  · subst h6
    go_wp2_with fail
    refine P1.out.mono ?_
    rintro r w2 ⟨rfl, h2, hF2⟩
    go_wp2_with fail
    refine (P2.out _ h2).mono ?_
    rintro r w3 ⟨rfl, h3, hF3⟩
    go_wp2_with fail
    refine (P3.out _ h3).mono ?_
    rintro r w4 ⟨rfl, h4, hF4⟩
    have HB4 := Lib.hid (HF.out _ _ (HF.out _ _ (HF.out _ _ HB1.out hF2) hF3) hF4)
    have hs := HB4.out.size
    go_wp2_with fail
    refine (lives_any _).mono ?_
    rintro r w5 ⟨rfl, hb5⟩
    go_wp2_with fail
    go_ret
    exact ⟨rfl, HB4.out.trans (hb5.mono hs)⟩
  · have h5' : (x == 0) = false := by simpa using h5
    have h6' : (y == 0) = false := by simpa using h6
    have H5 := Lib.hid h5
    have H6 := Lib.hid h6
    clear h5 h6
    go_wp2_with fail
    refine P1.out.mono ?_
    rintro r w2 ⟨rfl, h2, hF2⟩
    go_wp2_with fail
    refine (P2.out _ h2).mono ?_
    rintro r w3 ⟨rfl, h3, hF3⟩
    go_wp2_with fail
    refine (P3.out _ h3).mono ?_
    rintro r w4 ⟨rfl, h4, hF4⟩
    have HB4 := Lib.hid (HF.out _ _ (HF.out _ _ (HF.out _ _ HB1.out hF2) hF3) hF4)
    have hs := HB4.out.size
    go_wp2_with fail
    refine (lives_any _).mono ?_
    rintro r w5 ⟨rfl, hb5⟩
    go_wp2_with fail
    go_ret
    exact ⟨rfl, HB4.out.trans (hb5.mono hs)⟩
end Go.Proofs.Ytgjgcobkppmafaa
