/- Contracts of the rows' own functions (package chain): Push. No condition. -/
import Derived.Test.YtedhhohnbekelaaD
namespace Go.Proofs.Ytedhhohnbekelaa
open Go.RowKit

section
variable (c bn bl : Nat) (vn vl : Value) (s : Ch) (w : World) (h : IsCh w c bn bl vn vl s)
include h

theorem Push_arg (i n : Int) (hi : ¬ (0 ≤ i ∧ i < s.M) ∨ ¬ (0 ≤ n ∧ n < s.N)) :
    Calls Try.prog 25 #[.pointer (some ⟨c, 0, none⟩), .int .i64 i, .int .i64 n] w fun r w' => r = .returned (.int .i64 1) ∧ w = w' := by
  by_cases h1 : 0 ≤ i ∧ i < s.M
  · obtain ⟨k, rfl⟩ := Int.eq_ofNat_of_zero_le h1.1
    have H := Lib.hid (row_ok c bn bl vn vl s k w h (by omega))
    have H2 := Lib.hid (at_no c bn bl vn vl s n w h (by omega))
    clear h hi h1
    go_enter Try.func25, Try.ntmps25
    go_wp2_with fail
    refine H.out.mono ?_
    rintro r w' ⟨rfl, rfl⟩
    go_wp2_with fail
    refine H2.out.mono ?_
    rintro r w' ⟨rfl, rfl⟩
    go_wp2_with fail
    go_ret
    exact ⟨rfl, rfl⟩
  · have H := Lib.hid (row_no c bn bl vn vl s i w h (by omega))
    by_cases h2 : 0 ≤ n ∧ n < s.N
    · obtain ⟨k, rfl⟩ := Int.eq_ofNat_of_zero_le h2.1
      have H2 := Lib.hid (at_ok c bn bl vn vl s k w h (by omega))
      clear h hi h1 h2
      go_enter Try.func25, Try.ntmps25
      go_wp2_with fail
      refine H.out.mono ?_
      rintro r w' ⟨rfl, rfl⟩
      go_wp2_with fail
      refine H2.out.mono ?_
      rintro r w' ⟨rfl, rfl⟩
      go_wp2_with fail
      go_ret
      exact ⟨rfl, rfl⟩
    · have H2 := Lib.hid (at_no c bn bl vn vl s n w h (by omega))
      clear h hi h1 h2
      go_enter Try.func25, Try.ntmps25
      go_wp2_with fail
      refine H.out.mono ?_
      rintro r w' ⟨rfl, rfl⟩
      go_wp2_with fail
      refine H2.out.mono ?_
      rintro r w' ⟨rfl, rfl⟩
      go_wp2_with fail
      go_ret
      exact ⟨rfl, rfl⟩

theorem Push_twice (i n : Nat) (hi : i < s.M) (hn : n < s.N) (hl : (s.nodes n).list ≠ -1) :
    Calls Try.prog 25 #[.pointer (some ⟨c, 0, none⟩), .int .i64 i, .int .i64 n] w fun r w' => r = .returned (.int .i64 9) ∧ w = w' := by
  have H := Lib.hid (row_ok c bn bl vn vl s i w h hi)
  have H2 := Lib.hid (at_ok c bn bl vn vl s n w h hn)
  have hc := (h.node hn).1
  generalize (s.nodes n).list = f at *
  clear h
  have hl' : (f != -1) = true := by simp [hl]
  go_enter Try.func25, Try.ntmps25
  go_wp2_with fail
  refine H.out.mono ?_
  rintro r w' ⟨rfl, rfl⟩
  go_wp2_with fail
  refine H2.out.mono ?_
  rintro r w' ⟨rfl, rfl⟩
  go_wp2_with fail
  go_ret
  exact ⟨rfl, rfl⟩

theorem Push_yes (i n : Nat) (hi : i < s.M) (hn : n < s.N) (hl : (s.nodes n).list = -1) (hlast : (s.rows i).last = -1 ∨ (0 ≤ (s.rows i).last ∧ (s.rows i).last < s.N)) (hcnt : 0 ≤ (s.rows i).n ∧ (s.rows i).n ≤ 100000) :
    Calls Try.prog 25 #[.pointer (some ⟨c, 0, none⟩), .int .i64 i, .int .i64 n] w fun r w' => r = .returned (.int .i64 0) ∧ IsCh w' c bn bl vn vl (s.push i n) ∧ Frm (Two bn bl) w w' := by
  have H := Lib.hid (row_ok c bn bl vn vl s i w h hi)
  have H2 := Lib.hid (at_ok c bn bl vn vl s n w h hn)
  obtain ⟨hc0, hc1, hc2⟩ := h.node hn
  obtain ⟨hr0, hr1, hr2⟩ := h.rw hi
  have hne : ¬ bn = bl := h.apart.2.2
  have hne' : ¬ bl = bn := fun e => h.apart.2.2 e.symm
  have hcn : ¬ c = bn := h.apart.1
  have hcl : ¬ c = bl := h.apart.2.1
  have hct := h.c0
  have fn := h.fn (by omega)
  have fl := h.fl (by omega)
  have hS1 := Lib.hid (((h.setList hn i).setAhead (s := s.setN n { s.nodes n with list := i }) hn (s.rows i).last).setBehind (s := (s.setN n { s.nodes n with list := i }).setN n { (s.setN n { s.nodes n with list := i }).nodes n with ahead := (s.rows i).last }) hn (-1))
  have hF1 := Lib.hid ((((Frm.refl (Two bn bl) w).nd (n * 3) (.int .i64 i)).nd (n * 3 + 1) (.int .i64 (s.rows i).last)).nd (n * 3 + 2) (.int .i64 (-1)))
  have hs1 : ((s.setN n { s.nodes n with list := i }).setN n { (s.setN n { s.nodes n with list := i }).nodes n with ahead := (s.rows i).last }).setN n { ((s.setN n { s.nodes n with list := i }).setN n { (s.setN n { s.nodes n with list := i }).nodes n with ahead := (s.rows i).last }).nodes n with behind := -1 } = s.setN n ⟨i, (s.rows i).last, -1⟩ := by
    simp only [Ch.setN, Ch.mk.injEq, and_true, if_true]
    funext y
    by_cases e : y = n <;> simp [e]
  rw [hs1] at hS1
  clear hs1
  rw [hl] at hc0
  have HL := Lib.hid hl
  have HC := Lib.hid hcnt
  clear h hl hcnt
  go_enter Try.func25, Try.ntmps25
  go_wp2_with fail
  refine H.out.mono ?_
  rintro r w' ⟨rfl, rfl⟩
  go_wp2_with fail
  refine H2.out.mono ?_
  rintro r w' ⟨rfl, rfl⟩
  go_upto_if 46 with fail
  obtain ⟨W1, hW1⟩ : ∃ W1, ((w.setCell ⟨bn, n * 3, none⟩ (.int .i64 i)).setCell ⟨bn, n * 3 + 1, none⟩ (.int .i64 (s.rows i).last)).setCell ⟨bn, n * 3 + 2, none⟩ (.int .i64 (-1)) = W1 := ⟨_, rfl⟩
  have HC1 := Lib.hid (show IsCh W1 c bn bl vn vl (s.setN n ⟨i, (s.rows i).last, -1⟩) by rw [← hW1]; exact hS1.out)
  have HF := Lib.hid (show Frm (Two bn bl) w W1 by rw [← hW1]; exact hF1.out)
  rw [hW1]
  clear hW1 hS1 hF1 hc0 hc1 hc2 hr0 hr1 hr2 hct fn fl H H2
  obtain ⟨s1, hs1⟩ : ∃ s1, s.setN n ⟨i, (s.rows i).last, -1⟩ = s1 := ⟨_, rfl⟩
  have e1 : s1.rows i = s.rows i := by rw [← hs1]; rfl
  have eN : s1.N = s.N := by rw [← hs1]; rfl
  have eM : s1.M = s.M := by rw [← hs1]; rfl
  have EQ := Lib.hid (show s.push i n = (fun c2 : Ch => c2.setR i ⟨(c2.rows i).first, n, (c2.rows i).n + 1⟩) (if (s.rows i).last = -1 then s1.setR i { s1.rows i with first := n } else s1.setN (s.rows i).last.toNat { s1.nodes (s.rows i).last.toNat with behind := n }) by rw [← hs1]; rfl)
  rw [hs1] at HC1
  obtain ⟨s2, hs2⟩ : ∃ s2, (if (s.rows i).last = -1 then s1.setR i { s1.rows i with first := n } else s1.setN (s.rows i).last.toNat { s1.nodes (s.rows i).last.toNat with behind := n }) = s2 := ⟨_, rfl⟩
  rw [hs2] at EQ
  have eM2 : s2.M = s.M := by rw [← hs2]; split <;> exact eM
  have en2 : (s2.rows i).n = (s.rows i).n := by
    rw [← hs2]
    split
    · simp [Ch.setR, e1]
    · exact congrArg Rw.n e1
  have HS2 := Lib.hid hs2
  clear hs1 hs2
  go_cut [] (fun wr => IsCh wr c bn bl vn vl s2 ∧ Frm (Two bn bl) w wr)
  case first =>
    have q0 := HC1.out.c0
    obtain ⟨q1, q2, q3⟩ := HC1.out.rw (x := i) (by rw [eM]; exact hi)
    have fl := HC1.out.fl (by omega)
    have fn := HC1.out.fn (by omega)
    rw [e1] at q1 q2 q3
    by_cases hl : (s.rows i).last = -1
    · rw [hl] at q2
      have HX := Lib.hid (HC1.out.setFirst (x := i) (by omega) n)
      have e2 : s2 = s1.setR i { s1.rows i with first := n } := by rw [← HS2.out, if_pos hl]
      rw [hl]
      have HF2 := Lib.hid (HF.out.rw (i * 3) (.int .i64 n))
      have HLL := Lib.hid hl
      clear hl hlast
      go_wp2_with fail
      go_meet
      case rel => rw [e2]; exact ⟨HX.out, HF2.out⟩
    · obtain ⟨l0, l1⟩ : 0 ≤ (s.rows i).last ∧ (s.rows i).last < s.N := by omega
      obtain ⟨a, ha⟩ := Int.eq_ofNat_of_zero_le l0
      have e2 : s2 = s1.setN a { s1.nodes a with behind := n } := by rw [← HS2.out, if_neg hl, ha, Int.toNat_natCast]
      rw [ha] at q2 l1
      rw [ha]
      have haN : a < s.N := by omega
      have ha1 : ((a : Int) == -1) = false := by simp
      obtain ⟨q4, q5, q6⟩ := HC1.out.node (x := a) (by omega)
      obtain ⟨cap, hvn⟩ : ∃ cap, vn = .slice (some ⟨bn, 0, none⟩) s.N cap := by
        rcases HC1.out.sn with ⟨e, -⟩ | ⟨-, cap, e⟩
        · omega
        · exact ⟨cap, by rw [e, eN]⟩
      subst hvn
      have hm := HC1.out.most
      have HLL := Lib.hid hl
      clear hl hlast ha
      go_wp2_with fail
      go_region
      all_goals
        go_wp2_with fail
        go_meet
        case rel => rw [e2]; first | exact ⟨(HC1.out.drewN _).setBehind (x := a) (by rw [eN]; exact haN) n, (HF.out.drewN _).nd _ _⟩ | exact ⟨(HC1.out.drew).setBehind (x := a) (by rw [eN]; exact haN) n, (HF.out.drew).nd _ _⟩
  case rest =>
    obtain ⟨hC2, hF2⟩ := hcut
    have q0 := hC2.c0
    obtain ⟨q1, q2, q3⟩ := hC2.rw (x := i) (by rw [eM2]; exact hi)
    have fl := hC2.fl (by omega)
    rw [en2] at q3
    have HX := Lib.hid ((hC2.setLast (x := i) (by omega) n).setCount (s := s2.setR i { s2.rows i with last := n }) (x := i) (by show i < s2.M; omega) ((s.rows i).n + 1))
    have HF3 := Lib.hid ((hF2.rw (i * 3 + 1) (.int .i64 n)).rw (i * 3 + 2) (.int .i64 ((s.rows i).n + 1)))
    have e3 : (s2.setR i { s2.rows i with last := n }).setR i { (s2.setR i { s2.rows i with last := n }).rows i with n := (s.rows i).n + 1 } = s.push i n := by
      rw [EQ.out]
      simp only [Ch.setR, Ch.mk.injEq, true_and, and_true, if_true, en2]
      funext y
      by_cases e : y = i <;> simp [e]
    rw [e3] at HX
    have hc := HC.out
    clear hC2 hF2 e3 HC1 HF e1 hlast
    go_wp2_with fail
    go_ret
    exact ⟨rfl, HX.out, HF3.out⟩
end
end Go.Proofs.Ytedhhohnbekelaa
