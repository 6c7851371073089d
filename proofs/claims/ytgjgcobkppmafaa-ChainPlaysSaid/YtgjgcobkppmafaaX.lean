/- The program's rows and the document's are looked at in all their places (the law's alike). No condition. -/
import Derived.Test.YtgjgcobkppmafaaU
namespace Go.Proofs.Ytgjgcobkppmafaa
open Go.RowKit

/-- What is told of each number: it is in no row, or it is in one, at its end or ahead of another one. -/
theorem place_cases {N M : Nat} {R : Nat → List Nat} (f : RF N M R) (x : Int) :
    (tld (if 0 ≤ x ∧ x < N then inR R x.toNat M else -1) = .tuple #[.int .i64 0, .bool false] ∧ tld (behindR N M R x) = .tuple #[.int .i64 0, .bool false] ∧ inRef R x 0 M = (-1, -1)) ∨
    ∃ (i k : Nat) (l1 l2 : List Nat) (y : Nat), i < M ∧ x = y ∧ R i = l1 ++ y :: l2 ∧ l1.length = k ∧ tld (if 0 ≤ x ∧ x < N then inR R x.toNat M else -1) = .tuple #[.int .i64 i, .bool true] ∧
      tld (behindR N M R x) = tld (hd l2) ∧ inRef R x 0 M = ((i : Int), (k : Int)) := by
  by_cases hx : 0 ≤ x ∧ x < N
  · obtain ⟨y, rfl⟩ := Int.eq_ofNat_of_zero_le hx.1
    rw [if_pos hx, Int.toNat_natCast]
    rcases f.inRef y with ⟨h1, h2⟩ | ⟨i, l1, l2, h1, h2, h3, h4, h5⟩
    · left
      refine ⟨by rw [h2]; rfl, ?_, h1⟩
      unfold behindR
      rw [Int.toNat_natCast, if_neg (fun h => h.2.2 h2)]
      rfl
    · right
      refine ⟨i, l1.length, l1, l2, y, h1, rfl, h2, rfl, ?_, ?_, h3⟩
      · rw [h4]
        unfold tld
        have a1 : max (i : Int) 0 = i := by omega
        have a2 : ((i : Int) != -1) = true := by simp
        rw [a1, a2]
      · unfold behindR
        rw [Int.toNat_natCast, h4, if_pos ⟨by omega, by omega, by omega⟩, Int.toNat_natCast, h2, drop_mid h5]
        rfl
  · left
    rw [if_neg hx]
    refine ⟨rfl, ?_, ?_⟩
    · unfold behindR
      rw [if_neg (fun h => hx ⟨h.1, h.2.1⟩)]
      rfl
    · rcases inRef_spec (R := R) (x := x) (f := M) (a := 0) with ⟨h1, h2⟩ | ⟨i, l1, y, l2, _, h4, h5, h6, h7, h8⟩
      · exact h1
      · have := f.lt i (by omega) y (by rw [h5]; simp)
        omega

theorem RRow_any {w : World} {rx bl cap n1 N M : Nat} {V : Nat → Value} {R : Nat → List Nat} (h : IsRx w rx bl cap n1 V N M R) (i : Int) :
    ∃ A c, Src w (.slice A (rowOf M R i).length c) (rowOf M R i).length (ints (rowOf M R i)) ∧ ∀ w', IsRx w' rx bl cap n1 V N M R → Calls Try.prog 24 #[.pointer (some ⟨rx, 0, none⟩), .int .i64 i] w'
      fun r w'' => r = .returned (.slice A (rowOf M R i).length c) ∧ w' = w'' := by
  unfold rowOf
  by_cases hi : 0 ≤ i ∧ i < M
  · rw [if_pos hi]
    obtain ⟨i, rfl⟩ := Int.eq_ofNat_of_zero_le hi.1
    rw [Int.toNat_natCast]
    have him : i < M := by omega
    have ho := h.rows i him
    obtain ⟨A, c, hv, -⟩ := own_form ho
    refine ⟨A, c, ?_, fun w' h' => ?_⟩
    · rw [← hv]; exact Src.own ho
    · have := RRow_ok h' him
      rw [hv] at this
      exact this
  · rw [if_neg hi]
    exact ⟨none, 0, ⟨none, 0, rfl, rfl, .inl ⟨rfl, rfl⟩⟩, fun w' h' => RRow_no h' (by omega)⟩

set_option maxRecDepth 100000 in
set_option maxHeartbeats 4000000 in
theorem alike_any {w : World} {c bn bl rx blr cap n1 N M : Nat} {vn vl : Value} (h : Both w c bn bl vn vl rx blr cap n1 N M) (hN : N ≤ 4000) (hM : M ≤ 4000) :
    Calls Try.prog 15 #[.pointer (some ⟨c, 0, none⟩), .pointer (some ⟨rx, 0, none⟩)] w fun r w' => r = .returned (.bool true) ∧ Below w.heap.size w w' := by
  obtain ⟨R, V, hH, hX⟩ := h
  have HH := Lib.hid (fun (w' : World) (hb : Below w.heap.size w w') => hH.below hb)
  have HX := Lib.hid (fun (w' : World) (hb : Below w.heap.size w w') => hX.below hb)
  have HP := Lib.hid (place_cases hH.rf)
  clear hH hX
  go_enter Try.func15, Try.ntmps15
  go_wp2_with fail
  go_loopw [5] (fun u wr => ∃ i : Int, -1 ≤ i ∧ i ≤ (M : Int) + 1 ∧ u = .int .i64 i ∧ Below w.heap.size w wr) (fun u _ => ((M : Int) + 1 - intOf u).toNat)
  case atStart => exact ⟨-1, by omega, by omega, rfl, Below.refl _ _⟩
  case round =>
    obtain ⟨i, hi1, hi2, rfl, hB⟩ := hrel
    have hX := HX.out _ hB
    have hc1 := hX.c1
    have hc0 := hX.c0
    have HB := Lib.hid hB
    have hs := hB.size
    clear hB
    by_cases hle : i ≤ M
    · obtain ⟨A, cc, hsrc, hR⟩ := RRow_any hX i
      have HR := Lib.hid (hR _ hX)
      have hrow := callsIn_wide.1 (row_in (HH.out _ HB.out) i A cc hsrc)
      have HW := Lib.hid hrow
      clear hsrc hR hX hrow
      generalize (rowOf M R i).length = n at *
      go_wp2_with fail
      refine HR.out.mono ?_
      rintro r w' ⟨rfl, rfl⟩
      go_wp2_with fail
      refine HW.out.mono ?_
      rintro r w3 ⟨rfl, hb3⟩
      have HB3 := Lib.hid (HB.out.trans (hb3.mono hs))
      clear hb3
      go_wp2_with fail
      go_roundw
      case rel => exact ⟨i + 1, by omega, by omega, by go_num, HB3.out⟩
      case measure => simp [intOf]; omega
    · obtain ⟨wo, rfl⟩ : ∃ wo : World, wo = wr := ⟨_, rfl⟩
      go_wp2_with fail
      go_loop [6] (fun u => ∃ x : Int, -1 ≤ x ∧ x ≤ (N : Int) + 1 ∧ u = .int .i64 x) (fun u => ((N : Int) + 1 - intOf u).toNat)
      case atStart => exact ⟨-1, by omega, by omega, rfl⟩
      case round =>
        obtain ⟨x, hx1, hx2, rfl⟩ := hrel
        by_cases hle2 : x ≤ N
        · have HI := Lib.hid ((HH.out _ HB.out).isIn x)
          have HNx := Lib.hid ((HH.out _ HB.out).next x)
          have HRI := Lib.hid (RIn_any hX x)
          rcases HP.out x with ⟨e1, e2, e3⟩ | ⟨j, k, l1, l2, y, hj, rfl, hRj, hk, e1, e2, e3⟩
          · rw [e1] at HI
            rw [e2] at HNx
            rw [e3] at HRI
            clear e1 e2 e3
            go_wp2_with fail
            refine HI.out.mono ?_
            rintro r w' ⟨rfl, rfl⟩
            go_wp2_with fail
            refine HNx.out.mono ?_
            rintro r w' ⟨rfl, rfl⟩
            go_wp2_with fail
            refine HRI.out.mono ?_
            rintro r w' ⟨rfl, rfl⟩
            go_wp2_with fail
            go_round
            case rel => exact ⟨x + 1, by omega, by omega, by go_num⟩
            case measure => simp [intOf]; omega
          · rw [e1] at HI
            rw [e2] at HNx
            rw [e3] at HRI
            have hca := hX.ca hj
            have hrow := hX.rows j hj
            have hsm := hX.small j hj
            have hcap := hX.cap
            rw [hRj] at hrow hsm
            obtain ⟨A, cap', hv, hz⟩ := own_form hrow
            rw [hv] at hca
            have hlen : (l1 ++ y :: l2).length = k + 1 + l2.length := by simp; omega
            rw [hlen] at hca hsm
            have HZ := Lib.hid hz
            have HK := Lib.hid hk
            clear e1 e2 e3 hrow hRj hv hz hlen hk
            cases l2 with
            | nil =>
              rw [show tld (hd []) = .tuple #[.int .i64 0, .bool false] from rfl] at HNx
              simp only [List.length_nil, Nat.add_zero] at hca hsm
              go_wp2_with fail
              refine HI.out.mono ?_
              rintro r w' ⟨rfl, rfl⟩
              go_wp2_with fail
              refine HNx.out.mono ?_
              rintro r w' ⟨rfl, rfl⟩
              go_wp2_with fail
              refine HRI.out.mono ?_
              rintro r w' ⟨rfl, rfl⟩
              go_wp2_with fail
              go_round
              case rel => exact ⟨(y : Int) + 1, by omega, by omega, by go_num⟩
              case measure => simp [intOf]; omega
            | cons z r2 =>
              have et : tld (hd (z :: r2)) = .tuple #[.int .i64 z, .bool true] := by
                unfold tld
                have a1 : max (hd (z :: r2)) 0 = z := by simp only [hd]; omega
                have a2 : (hd (z :: r2) != -1) = true := by simp only [hd]; simp
                rw [a1, a2]
              rw [et] at HNx
              simp only [List.length_cons] at hca hsm
              obtain ⟨g, hA, hcell⟩ : ∃ g, A = some ⟨g, 0, none⟩ ∧ wo.cell? ⟨g, k + 1, none⟩ = some (.int .i64 z) := by
                rcases HZ.out with h0 | ⟨g, hA, hc⟩
                · simp at h0
                · refine ⟨g, hA, hc (k + 1) _ ?_⟩
                  unfold ints
                  rw [List.getElem?_map, List.getElem?_append_right (by rw [HK.out]; omega), HK.out, show k + 1 - k = 1 by omega]
                  rfl
              subst hA
              clear et
              go_wp2_with fail
              refine HI.out.mono ?_
              rintro r w' ⟨rfl, rfl⟩
              go_wp2_with fail
              refine HNx.out.mono ?_
              rintro r w' ⟨rfl, rfl⟩
              go_wp2_with fail
              refine HRI.out.mono ?_
              rintro r w' ⟨rfl, rfl⟩
              go_wp2_with fail
              go_round
              case rel => exact ⟨(y : Int) + 1, by omega, by omega, by go_num⟩
              case measure => simp [intOf]; omega
        · go_wp2_with fail
          go_ret
          exact ⟨rfl, HB.out⟩
end Go.Proofs.Ytgjgcobkppmafaa
