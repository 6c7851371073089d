/- Contracts of the rows' own functions (package chain): Remove. No condition. -/
import Derived.Test.YtedhhohnbekelaaE
namespace Go.Proofs.Ytedhhohnbekelaa
open Go.RowKit

section
variable (c bn bl : Nat) (vn vl : Value) (s : Ch) (w : World) (h : IsCh w c bn bl vn vl s)
include h

theorem Remove_arg (n : Int) (hi : ¬ (0 ≤ n ∧ n < s.N)) :
    Calls Try.prog 36 #[.pointer (some ⟨c, 0, none⟩), .int .i64 n] w fun r w' => r = .returned (.tuple #[.int .i64 0, .int .i64 1]) ∧ w = w' := by
  have H2 := Lib.hid (at_no c bn bl vn vl s n w h (by omega))
  clear h hi
  go_enter Try.func36, Try.ntmps36
  go_wp2_with fail
  refine H2.out.mono ?_
  rintro r w' ⟨rfl, rfl⟩
  go_wp2_with fail
  go_ret2
  exact ⟨rfl, rfl⟩

theorem Remove_none (n : Nat) (hn : n < s.N) (hl : (s.nodes n).list = -1) :
    Calls Try.prog 36 #[.pointer (some ⟨c, 0, none⟩), .int .i64 n] w fun r w' => r = .returned (.tuple #[.int .i64 0, .int .i64 3]) ∧ w = w' := by
  have H2 := Lib.hid (at_ok c bn bl vn vl s n w h hn)
  have hc := (h.node hn).1
  rw [hl] at hc
  clear h hl
  go_enter Try.func36, Try.ntmps36
  go_wp2_with fail
  refine H2.out.mono ?_
  rintro r w' ⟨rfl, rfl⟩
  go_wp2_with fail
  go_ret2
  exact ⟨rfl, rfl⟩

set_option maxRecDepth 100000 in
theorem Remove_yes (x i : Nat) (hx : x < s.N) (hi : i < s.M) (hl : (s.nodes x).list = i)
    (ha : (s.nodes x).ahead = -1 ∨ ∃ a : Nat, (s.nodes x).ahead = a ∧ a < s.N ∧ a ≠ x) (hb : (s.nodes x).behind = -1 ∨ ∃ b : Nat, (s.nodes x).behind = b ∧ b < s.N ∧ b ≠ x) (hcnt : 1 ≤ (s.rows i).n ∧ (s.rows i).n ≤ 100000) :
    Calls Try.prog 36 #[.pointer (some ⟨c, 0, none⟩), .int .i64 x] w fun r w' => r = .returned (.tuple #[.int .i64 i, .int .i64 0]) ∧ IsCh w' c bn bl vn vl (s.remove x) ∧ Frm (Two bn bl) w w' := by
  have H2 := Lib.hid (at_ok c bn bl vn vl s x w h hx)
  have H := Lib.hid h
  obtain ⟨hc0, hc1, hc2⟩ := h.node hx
  obtain ⟨hr0, hr1, hr2⟩ := h.rw hi
  have q0 := h.c0
  have q1 := h.c1
  have fn := h.fn (by omega)
  have fl := h.fl (by omega)
  have hm := h.most
  have hne : ¬ bn = bl := h.apart.2.2
  have hne' : ¬ bl = bn := fun e => h.apart.2.2 e.symm
  obtain ⟨capl, hvl⟩ : ∃ cap, vl = .slice (some ⟨bl, 0, none⟩) s.M cap := by
    rcases h.sl with ⟨e, -⟩ | ⟨-, e⟩
    · omega
    · exact e
  obtain ⟨capn, hvn⟩ : ∃ cap, vn = .slice (some ⟨bn, 0, none⟩) s.N cap := by
    rcases h.sn with ⟨e, -⟩ | ⟨-, e⟩
    · omega
    · exact e
  rw [hl] at hc0
  obtain ⟨s1, hs1⟩ : ∃ s1, (if (s.nodes x).ahead = -1 then s.setR i { s.rows i with first := (s.nodes x).behind } else s.setN (s.nodes x).ahead.toNat { s.nodes (s.nodes x).ahead.toNat with behind := (s.nodes x).behind }) = s1 := ⟨_, rfl⟩
  have en1 : s1.nodes x = s.nodes x := by
    rw [← hs1]
    split
    · rfl
    · rename_i e
      rcases ha with ha | ⟨a, ha, -, hax⟩
      · exact absurd ha e
      · simp only [Ch.setN, ha, Int.toNat_natCast]
        rw [if_neg (fun e => hax e.symm)]
  have er1 : (s1.rows i).n = (s.rows i).n := by rw [← hs1]; split <;> simp [Ch.setR, Ch.setN]
  have eN1 : s1.N = s.N := by rw [← hs1]; split <;> rfl
  have eM1 : s1.M = s.M := by rw [← hs1]; split <;> rfl
  obtain ⟨s2, hs2⟩ : ∃ s2, (if (s.nodes x).behind = -1 then s1.setR i { s1.rows i with last := (s.nodes x).ahead } else s1.setN (s.nodes x).behind.toNat { s1.nodes (s.nodes x).behind.toNat with ahead := (s.nodes x).ahead }) = s2 := ⟨_, rfl⟩
  have er2 : (s2.rows i).n = (s.rows i).n := by rw [← hs2]; split <;> simp [Ch.setR, Ch.setN, er1]
  have eN2 : s2.N = s.N := by rw [← hs2]; split <;> exact eN1
  have eM2 : s2.M = s.M := by rw [← hs2]; split <;> exact eM1
  have EQ := Lib.hid (show s.remove x = (s2.setR i { s2.rows i with n := (s2.rows i).n - 1 }).setN x ⟨-1, -1, -1⟩ by
    unfold Ch.remove
    simp only [hl, Int.toNat_natCast, hs1, en1, hs2])
  generalize hA : (s.nodes x).ahead = A at *
  generalize hB : (s.nodes x).behind = B at *
  have HA := Lib.hid ha
  have HB := Lib.hid hb
  have HS1 := Lib.hid hs1
  have HS2 := Lib.hid hs2
  have EN1 := Lib.hid en1
  have EA := Lib.hid hA
  have EB := Lib.hid hB
  have ER2 := Lib.hid er2
  have HL := Lib.hid hl
  clear h hl ha hb hs1 hs2 en1 er1 er2 hA hB
  subst hvn hvl
  go_enter Try.func36, Try.ntmps36
  go_wp2_with fail
  refine H2.out.mono ?_
  rintro r w' ⟨rfl, rfl⟩
  go_upto_if 35 with fail
  go_cut [] (fun wr => IsCh wr c bn bl (.slice (some ⟨bn, 0, none⟩) s.N capn) (.slice (some ⟨bl, 0, none⟩) s.M capl) s1 ∧ Frm (Two bn bl) w wr)
  case first =>
    rcases HA.out with ha | ⟨a, ha, haN, hax⟩
    · subst ha
      have e1 : s1 = s.setR i { s.rows i with first := B } := by rw [← HS1.out, if_pos rfl]
      go_wp2_with fail
      go_meet
      case rel => rw [e1]; exact ⟨H.out.setFirst (x := i) hi B, (Frm.refl (Two bn bl) w).rw _ _⟩
    · subst ha
      have ha1 : ((a : Int) == -1) = false := by simp
      have e1 : s1 = s.setN a { s.nodes a with behind := B } := by rw [← HS1.out, if_neg (by omega), Int.toNat_natCast]
      obtain ⟨q4, q5, q6⟩ := H.out.node haN
      go_wp2_with fail
      go_region
      all_goals
        go_wp2_with fail
        go_meet
        case rel => rw [e1]; first | exact ⟨(H.out.drewN _).setBehind (x := a) haN B, ((Frm.refl (Two bn bl) w).drewN _).nd _ _⟩ | exact ⟨(H.out.drew).setBehind (x := a) haN B, ((Frm.refl (Two bn bl) w).drew).nd _ _⟩
  case rest =>
    obtain ⟨hC1, hF1⟩ := hcut
    clear hc0 hc1 hc2 hr0 hr1 hr2 q0 q1 fn fl
    obtain ⟨hc0, hc1, hc2⟩ := hC1.node (x := x) (by omega)
    rw [EN1.out] at hc0 hc1 hc2
    rw [EA.out] at hc1
    rw [EB.out] at hc2
    obtain ⟨hr0, hr1, hr2⟩ := hC1.rw (x := i) (by omega)
    have q0 := hC1.c0
    have fn := hC1.fn (by omega)
    have fl := hC1.fl (by omega)
    have H1 := Lib.hid hC1
    have HF1 := Lib.hid hF1
    clear hC1 hF1
    go_upto_if 61 with fail
    go_cut [] (fun wr => IsCh wr c bn bl (.slice (some ⟨bn, 0, none⟩) s.N capn) (.slice (some ⟨bl, 0, none⟩) s.M capl) s2 ∧ Frm (Two bn bl) w wr)
    case first =>
      rcases HB.out with hb | ⟨b, hb, hbN, hbx⟩
      · subst hb
        have e1 : s2 = s1.setR i { s1.rows i with last := A } := by rw [← HS2.out, if_pos rfl]
        go_wp2_with fail
        go_meet
        case rel => rw [e1]; exact ⟨H1.out.setLast (x := i) (by omega) A, HF1.out.rw _ _⟩
      · subst hb
        have ha1 : ((b : Int) == -1) = false := by simp
        have e1 : s2 = s1.setN b { s1.nodes b with ahead := A } := by rw [← HS2.out, if_neg (by omega), Int.toNat_natCast]
        obtain ⟨q4, q5, q6⟩ := H1.out.node (x := b) (by omega)
        go_wp2_with fail
        go_region
        all_goals
          go_wp2_with fail
          go_meet
          case rel => rw [e1]; first | exact ⟨(H1.out.drewN _).setAhead (x := b) (by omega) A, (HF1.out.drewN _).nd _ _⟩ | exact ⟨(H1.out.drew).setAhead (x := b) (by omega) A, (HF1.out.drew).nd _ _⟩
    case rest =>
      obtain ⟨hC2, hF2⟩ := hcut
      clear hc0 hc1 hc2 hr0 hr1 hr2 q0 fn fl
      obtain ⟨hc0, hc1, hc2⟩ := hC2.node (x := x) (by omega)
      obtain ⟨hr0, hr1, hr2⟩ := hC2.rw (x := i) (by omega)
      rw [ER2.out] at hr2
      have fn := hC2.fn (by omega)
      have fl := hC2.fl (by omega)
      obtain ⟨t0, ht0⟩ : ∃ t0, s2.setR i { s2.rows i with n := (s.rows i).n - 1 } = t0 := ⟨_, rfl⟩
      have et : t0.N = s2.N := by rw [← ht0]; rfl
      have h0 := hC2.setCount (x := i) (by omega) ((s.rows i).n - 1)
      rw [ht0] at h0
      have h1 := h0.setList (x := x) (by omega) (-1)
      have h2 := h1.setAhead (x := x) (by show x < t0.N; omega) (-1)
      have h3 := h2.setBehind (x := x) (by show x < t0.N; omega) (-1)
      have e4 : ((t0.setN x { t0.nodes x with list := -1 }).setN x { (t0.setN x { t0.nodes x with list := -1 }).nodes x with ahead := -1 }).setN x { ((t0.setN x { t0.nodes x with list := -1 }).setN x { (t0.setN x { t0.nodes x with list := -1 }).nodes x with ahead := -1 }).nodes x with behind := -1 } = s.remove x := by
        rw [EQ.out, ER2.out, ht0]
        simp only [Ch.setN, Ch.mk.injEq, and_true, if_true]
        funext y
        by_cases e : y = x <;> simp [e]
      rw [e4] at h3
      have H3 := Lib.hid h3
      have HF3 := Lib.hid ((((hF2.rw (i * 3 + 2) (.int .i64 ((s.rows i).n - 1))).nd (x * 3) (.int .i64 (-1))).nd (x * 3 + 1) (.int .i64 (-1))).nd (x * 3 + 2) (.int .i64 (-1)))
      clear h0 h1 h2 h3 e4 ht0
      clear hC2 hF2
      go_wp2_with fail
      go_ret2
      exact ⟨rfl, H3.out, HF3.out⟩
end
end Go.Proofs.Ytedhhohnbekelaa
