/- Contracts of the document's rows (package pinfoldref07): In, Row. No condition. -/
import Derived.Test.YtgjgcobkppmafaaA
namespace Go.Proofs.Ytgjgcobkppmafaa
open Go.RowKit

/-- Where x stands in a row. -/
def idxOf (x : Int) : List Nat → Option Nat
  | [] => none
  | y :: r => if (y : Int) = x then some 0 else (idxOf x r).map (· + 1)

theorem idxOf_none {x : Int} : ∀ {l : List Nat}, (∀ (t : Nat) (y : Nat), l[t]? = some y → (y : Int) ≠ x) → idxOf x l = none
  | [], _ => rfl
  | y :: r, h => by
    unfold idxOf
    rw [if_neg (h 0 y rfl), idxOf_none (l := r) (fun t z ht => h (t + 1) z ht)]
    rfl

theorem idxOf_some {x : Int} : ∀ {l : List Nat} {k : Nat} {y : Nat}, l[k]? = some y → (y : Int) = x → (∀ (t : Nat) (z : Nat), t < k → l[t]? = some z → (z : Int) ≠ x) → idxOf x l = some k
  | [], k, y, h, _, _ => by simp at h
  | a :: r, 0, y, h, hy, _ => by
    obtain rfl : a = y := by simpa using h
    unfold idxOf
    rw [if_pos hy]
  | a :: r, k + 1, y, h, hy, hn => by
    unfold idxOf
    rw [if_neg (hn 0 a (by omega) rfl), idxOf_some (l := r) (k := k) (y := y) (by simpa using h) hy (fun t z ht hz => hn (t + 1) z (by omega) (by simpa using hz))]
    rfl

/-- The first row, from i on, of n rows, in which x stands, and where. -/
def inRef (R : Nat → List Nat) (x : Int) : Nat → Nat → Int × Int
  | _, 0 => (-1, -1)
  | i, n + 1 => match idxOf x (R i) with
    | some k => (i, k)
    | none => inRef R x (i + 1) n

theorem inRef_some {R : Nat → List Nat} {x : Int} {a M k : Nat} (ha : a < M) (h : idxOf x (R a) = some k) : inRef R x a (M - a) = ((a : Int), (k : Int)) := by
  rw [show M - a = (M - a - 1) + 1 by omega]
  unfold inRef
  rw [h]

theorem inRef_none {R : Nat → List Nat} {x : Int} {a M : Nat} (ha : a < M) (h : idxOf x (R a) = none) : inRef R x a (M - a) = inRef R x (a + 1) (M - (a + 1)) := by
  rw [show M - a = (M - (a + 1)) + 1 by omega]
  conv => lhs; unfold inRef
  rw [h]

section
variable {w : World} {rx bl cap n1 N M : Nat} {V : Nat → Value} {R : Nat → List Nat}

theorem RIn_any (h : IsRx w rx bl cap n1 V N M R) (x : Int) : Calls Try.prog 25 #[.pointer (some ⟨rx, 0, none⟩), .int .i64 x] w
    fun r w' => r = .returned (.tuple #[.int .i64 (inRef R x 0 M).1, .int .i64 (inRef R x 0 M).2]) ∧ w = w' := by
  have hc1 := h.c1
  have hcap := h.cap
  have H := Lib.hid h
  clear h
  go_enter Try.func25, Try.ntmps25
  go_wp2
  go_loop [15] (fun i => ∃ a : Nat, a ≤ M ∧ i = .int .i64 a ∧ inRef R x 0 M = inRef R x a (M - a)) (fun i => M - (intOf i).toNat)
  case atStart => exact ⟨0, Nat.zero_le _, rfl, rfl⟩
  case round =>
    obtain ⟨a, ha, rfl, heq⟩ := hrel
    have HE := Lib.hid heq
    clear heq
    by_cases hlt : a < M
    · have hca := H.out.ca hlt
      have hrow := H.out.rows a hlt
      have hsm := H.out.small a hlt
      have HS := Lib.hid (fun k => inRef_some (R := R) (x := x) (k := k) hlt)
      have HN := Lib.hid (inRef_none (R := R) (x := x) hlt)
      generalize V a = va at *
      obtain ⟨A, cap', rfl, hz⟩ := own_form hrow
      have HZ := Lib.hid hz
      clear hrow hz
      generalize R a = L at *
      obtain ⟨wo, hwo⟩ : ∃ wo : World, wo = w := ⟨_, rfl⟩
      clear hwo
      go_wp2
      go_loop [22] (fun i => ∃ k : Nat, k ≤ L.length ∧ i = .int .i64 k ∧ Hid (∀ (t : Nat) (z : Nat), t < k → L[t]? = some z → (z : Int) ≠ x)) (fun i => L.length - (intOf i).toNat)
      case atStart => exact ⟨0, Nat.zero_le _, rfl, Lib.hid (fun t z ht => by omega)⟩
      case round =>
        obtain ⟨k, hk, rfl, HK⟩ := hrel
        by_cases hltk : k < L.length
        · obtain ⟨y, hy⟩ : ∃ y, L[k]? = some y := ⟨_, List.getElem?_eq_getElem hltk⟩
          obtain ⟨g, rfl, hcell⟩ : ∃ g, A = some ⟨g, 0, none⟩ ∧ w.cell? ⟨g, k, none⟩ = some (.int .i64 y) := by
            rcases HZ.out with h0 | ⟨g, rfl, hc⟩
            · omega
            · exact ⟨g, rfl, hc k _ (by unfold ints; rw [List.getElem?_map, hy]; rfl)⟩
          have HY := Lib.hid hy
          clear hy
          by_cases hyx : (y : Int) = x
          · have HF := Lib.hid (HE.out.trans (HS.out k (idxOf_some HY.out hyx HK.out)))
            have hyx' : ((y : Int) == x) = true := by simpa using hyx
            have HYX := Lib.hid hyx
            clear hyx
            go_wp2
            go_ret2
            refine ⟨?_, rfl⟩
            rw [HF.out]
            rfl
          · have hyx' : ((y : Int) == x) = false := by simpa using hyx
            have HYX := Lib.hid hyx
            clear hyx
            go_wp2
            go_round
            case rel => exact ⟨k + 1, by omega, by go_num, Lib.hid (fun t z ht hz => by
              by_cases e : t = k
              · subst e
                rw [HY.out] at hz
                obtain rfl : y = z := by simpa using hz
                exact HYX.out
              · exact HK.out t z (by omega) hz)⟩
            case measure => simp [intOf]; omega
        · obtain rfl : k = L.length := by omega
          have HF := Lib.hid (HE.out.trans (HN.out (idxOf_none (fun t y ht => HK.out t y (List.getElem?_eq_some_iff.1 ht).1 ht))))
          go_wp2
          go_round
          case rel => exact ⟨a + 1, by omega, by go_num, HF.out⟩
          case measure => simp [intOf]; omega
    · obtain rfl : a = M := by omega
      have HF := Lib.hid (show inRef R x 0 a = (-1, -1) by rw [HE.out, Nat.sub_self]; rfl)
      go_wp2
      go_ret2
      refine ⟨?_, rfl⟩
      rw [HF.out]
      rfl

theorem RRow_ok (h : IsRx w rx bl cap n1 V N M R) {i : Nat} (hi : i < M) : Calls Try.prog 24 #[.pointer (some ⟨rx, 0, none⟩), .int .i64 i] w
    fun r w' => r = .returned (V i) ∧ w = w' := by
  have hc1 := h.c1
  have hcap := h.cap
  have hca := h.ca hi
  clear h
  generalize V i = v at *
  go_enter Try.func24, Try.ntmps24
  go_wp2
  go_ret
  exact ⟨rfl, rfl⟩

theorem RRow_no (h : IsRx w rx bl cap n1 V N M R) {i : Int} (hi : i < 0 ∨ (M : Int) ≤ i) : Calls Try.prog 24 #[.pointer (some ⟨rx, 0, none⟩), .int .i64 i] w
    fun r w' => r = .returned (.slice none 0 0) ∧ w = w' := by
  have hc1 := h.c1
  have hcap := h.cap
  clear h
  by_cases h0 : i < 0
  · clear hi
    go_enter Try.func24, Try.ntmps24
    go_wp2
    go_ret
    exact ⟨rfl, rfl⟩
  · have hh : (M : Int) ≤ i := by omega
    clear hi
    go_enter Try.func24, Try.ntmps24
    go_wp2
    go_ret
    exact ⟨rfl, rfl⟩
end
end Go.Proofs.Ytgjgcobkppmafaa
