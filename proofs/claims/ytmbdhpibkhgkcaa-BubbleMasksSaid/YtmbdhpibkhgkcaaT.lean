/- Inside, and Regen's functions within (package bubble). No condition. -/
import Derived.Test.YtmbdhpibkhgkcaaP
namespace Go.Proofs.Ytmbdhpibkhgkcaa
open Go.RowKit

/-- Inside's way up. -/
def insI (bs : Nat → Bk) (i : Int) : Nat → Int → Bool
  | 0, b => b == i
  | f + 1, b => if i < b then insI bs i f (bs b.toNat 0) else b == i
def insD (n : Nat) (bs : Nat → Bk) (b i : Int) : Bool := isB n b && isB n i && insI bs i (b + 1).toNat b
theorem insI_no {bs : Nat → Bk} {i b : Int} (h : ¬ i < b) (f : Nat) : insI bs i f b = (b == i) := by
  cases f with
  | zero => rfl
  | succ f => unfold insI; rw [if_neg h]
theorem insI_congr {bs bs' : Nat → Bk} (h : ∀ k, bs k 0 = bs' k 0) (i : Int) : ∀ (f : Nat) (b : Int), insI bs i f b = insI bs' i f b
  | 0, _ => rfl
  | f + 1, b => by
    unfold insI
    rw [h, insI_congr h i f]
theorem insD_congr {bs bs' : Nat → Bk} (h : ∀ k, bs k 0 = bs' k 0) (n : Nat) (b i : Int) : insD n bs b i = insD n bs' b i := by
  unfold insD
  rw [insI_congr h]

section
variable {w w' : World} {base fb n : Nat} {lv : Value} {bs : Nat → Bk}

set_option maxRecDepth 100000 in
set_option maxHeartbeats 1000000 in
theorem FInside_any (h : IsFo w base fb lv n bs) (b i : Int) : Calls Try.prog 21 #[.pointer (some ⟨fb, 0, none⟩), .int .i64 b, .int .i64 i] w fun r w' => r = .returned (.bool (insD n bs b i)) ∧ w = w' := by
  have H := Lib.hid h
  have HI := Lib.hid (FIs_any h b)
  have HJ := Lib.hid (FIs_any h i)
  clear h
  unfold insD
  cases hb : isB n b with
  | false =>
    rw [hb] at HI
    clear hb
    go_enter Try.func21, Try.ntmps21
    go_wp2_with fail
    refine HI.out.mono ?_
    rintro r w' ⟨rfl, rfl⟩
    go_wp2_with fail
    go_ret
    exact ⟨rfl, rfl⟩
  | true =>
    rw [hb] at HI
    cases hi : isB n i with
    | false =>
      rw [hi] at HJ
      clear hb hi
      go_enter Try.func21, Try.ntmps21
      go_wp2_with fail
      refine HI.out.mono ?_
      rintro r w' ⟨rfl, rfl⟩
      go_wp2_with fail
      refine HJ.out.mono ?_
      rintro r w' ⟨rfl, rfl⟩
      go_wp2_with fail
      go_ret
      exact ⟨rfl, rfl⟩
    | true =>
      rw [hi] at HJ
      obtain ⟨b0, b1⟩ := isB_iff.1 hb
      obtain ⟨i0, i1⟩ := isB_iff.1 hi
      obtain ⟨R, hR⟩ : ∃ R, insI bs i (b + 1).toNat b = R := ⟨_, rfl⟩
      rw [hR]
      have HR := Lib.hid hR
      clear hR hb hi
      go_enter Try.func21, Try.ntmps21
      go_wp2_with fail
      refine HI.out.mono ?_
      rintro r w' ⟨rfl, rfl⟩
      go_wp2_with fail
      refine HJ.out.mono ?_
      rintro r w' ⟨rfl, rfl⟩
      go_wp2_with fail
      go_loopw [1] (fun x wr => ∃ (c : Int) (f : Nat), x = .int .i64 c ∧ c < f ∧ c < n ∧ insI bs i f c = R ∧ w = wr) (fun x _ => (intOf x + 1).toNat)
      case atStart => exact ⟨b, (b + 1).toNat, rfl, by omega, b1, HR.out, rfl⟩
      case round =>
        clear HR
        obtain ⟨c, f, rfl, hf, hcn, hR, rfl⟩ := hrel
        by_cases hic : i < c
        · obtain ⟨f, rfl⟩ : ∃ f', f = f' + 1 := ⟨f - 1, by omega⟩
          unfold insI at hR
          rw [if_pos hic] at hR
          obtain ⟨c, rfl⟩ := Int.eq_ofNat_of_zero_le (show 0 ≤ c by omega)
          rw [Int.toNat_natCast] at hR
          have hc : c < n := by omega
          obtain ⟨a, cap, rfl, hg⟩ := H.out.lvForm
          obtain ⟨g, rfl, hgb⟩ := hg (by omega)
          have k0 := H.out.c0
          have k2 := H.out.cell hc (o := 0) (by omega)
          rw [show buKind 0 = .i64 from rfl, Nat.add_zero] at k2
          have hup := H.out.ups c hc
          have HRR := Lib.hid hR
          clear hR hg
          generalize bs c 0 = u at *
          go_wp2_with fail
          go_roundw
          case rel => exact ⟨u, f, rfl, by omega, by omega, HRR.out, trivial⟩
          case measure => simp only [intOf]; omega
        · rw [insI_no hic] at hR
          have hni : ¬ i < c := hic
          have HRR := Lib.hid hR
          clear hR hic
          go_wp2_with fail
          go_ret
          exact ⟨by rw [← HRR.out]; rfl, rfl⟩

/-- Whether a bubble is inside another one, and placed. -/
def innB (n : Nat) (bs : Nat → Bk) (b : Nat) (k : Nat) : Bool := !((k : Int) == (b : Int)) && insD n bs k b && decide (3 ≤ bs k 17)
def trR (x : Bk) : Bk := setO x 17 2

set_option maxRecDepth 100000 in
theorem Inn_any (h : IsFo w base fb lv n bs) {F B b : Nat} (hF : w.cell? ⟨F, 0, none⟩ = some (.pointer (some ⟨fb, 0, none⟩))) (hB : w.cell? ⟨B, 0, none⟩ = some (.int .i64 b)) {k : Nat} (hk : k < n) :
    Calls Try.prog 39 #[.int .i64 k, .pointer (some ⟨B, 0, none⟩), .pointer (some ⟨F, 0, none⟩)] w fun r w' => r = .returned (.bool (innB n bs b k)) ∧ ∃ j, w' = w.drewN j := by
  have hmost := h.most
  have HIN := Lib.hid (FInside_any h k b)
  obtain ⟨la, lcap, rfl, hg⟩ := h.lvForm
  obtain ⟨g, rfl, hgb⟩ := hg (by omega)
  have c0 := h.c0
  have c2 := h.cell hk (o := 17) (by omega)
  rw [show buKind 17 = .i64 from rfl] at c2
  have hkI : (k : Int) < n := by omega
  unfold innB
  generalize bs k 17 = st at *
  obtain ⟨R, hR⟩ : ∃ R, insD n bs k b = R := ⟨_, rfl⟩
  rw [hR] at HIN ⊢
  clear h hg hR
  by_cases e : (k : Int) = (b : Int)
  · have n1 : ((k : Int) == (b : Int)) = true := by simpa using e
    have n2 : ((k : Int) != (b : Int)) = false := by simpa using e
    rw [n1]
    clear e
    go_enter Try.func39, Try.ntmps39
    go_wp2_with fail
    go_ret
    exact ⟨rfl, 0, rfl⟩
  · have n1 : ((k : Int) == (b : Int)) = false := by simpa using e
    have n2 : ((k : Int) != (b : Int)) = true := by simpa using e
    rw [n1]
    clear e
    cases R with
    | false =>
      go_enter Try.func39, Try.ntmps39
      go_wp2_with fail
      refine HIN.out.mono ?_
      rintro r w' ⟨rfl, rfl⟩
      go_wp2_with fail
      go_ret
      exact ⟨rfl, 0, rfl⟩
    | true =>
      by_cases h3 : 3 ≤ st
      · go_enter Try.func39, Try.ntmps39
        go_wp2_with fail
        refine HIN.out.mono ?_
        rintro r w' ⟨rfl, rfl⟩
        go_wp2_with fail
        go_ret
        exact ⟨by simp [h3], 0, rfl⟩
      · go_enter Try.func39, Try.ntmps39
        go_wp2_with fail
        refine HIN.out.mono ?_
        rintro r w' ⟨rfl, rfl⟩
        go_wp2_with fail
        go_ret
        exact ⟨by simp [h3], 0, rfl⟩

theorem InnDo_any {g cap : Nat} (h : IsFo w base fb (.slice (some ⟨g, 0, none⟩) n cap) n bs) {i : Nat} (hi : i < n) :
    Calls Try.prog 40 #[.pointer (some ⟨g, i * 19, none⟩)] w
      fun r w' => r = .returned (.tuple #[]) ∧ IsFo w' base fb (.slice (some ⟨g, 0, none⟩) n cap) n (updT bs i (trR (bs i))) ∧ Frm (FoS fb (.slice (some ⟨g, 0, none⟩) n cap)) w w' := by
  have f1 := h.fz (i * 19 + 17)
  have d1 := h.cell hi (o := 17) (by omega)
  rw [show buKind 17 = .i64 from rfl] at d1
  have HW := Lib.hid (h.wcell hi (o := 17) (by omega) (by omega) (k := IntKind.i64) rfl 2)
  clear h
  go_enter Try.func40, Try.ntmps40
  go_wp2_with fail
  go_end0
  exact ⟨rfl, HW.out.1, HW.out.2⟩
end
end Go.Proofs.Ytmbdhpibkhgkcaa
