/- A part of the proof that fair.Window is one more than the greatest of its gaps (contracts of the functions of package fair). No condition. -/
import Derived.Test.YtnldnhmkljfodaaC
namespace Go.Proofs.Ytnldnhmkljfodaa
open Go.RowKit

theorem most_le {l : List Nat} {m : Nat} (h : ∀ x ∈ l, x ≤ m) : most l ≤ m := by
  unfold most
  have : ∀ (l : List Nat) (a : Nat), a ≤ m → (∀ x ∈ l, x ≤ m) → l.foldl max a ≤ m := by
    intro l
    induction l with
    | nil => intro a ha _; exact ha
    | cons x l ih => intro a ha h; exact ih _ (by have := h x (by simp); omega) (fun y hy => h y (by simp [hy]))
  exact this l 0 (Nat.zero_le _) h

theorem gapsGo_le : ∀ (bs : List Bool) (n : Nat), ∀ x ∈ gapsGo bs n, x ≤ n + bs.length
  | [], n, x, h => by simp [gapsGo] at h; omega
  | true :: r, n, x, h => by
    simp [gapsGo] at h
    rcases h with rfl | h
    · omega
    · have := gapsGo_le r 0 x h; simp; omega
  | false :: r, n, x, h => by
    simp [gapsGo] at h
    have := gapsGo_le r (n + 1) x h; simp; omega

theorem gapOf_le (e : Nat → E) (len : Nat) (cpu : Int) : gapOf e len cpu ≤ len :=
  most_le fun x hx => by have := gapsGo_le _ 0 x hx; simpa [steps] using this

/-- A slice of numbers: of none, or in a block below n₀. -/
def Ints (n₀ : Nat) (w : World) (a : Option Addr) (len : Nat) (c : Nat → Int) : Prop :=
  len * 8 ≤ 140737488351232 ∧ (len = 0 ∨ ∃ b off, a = some ⟨b, off, none⟩ ∧ b < n₀ ∧ ∀ k, k < len → w.cell? ⟨b, off + k, none⟩ = some (.int .i64 (c k)))

theorem Ints.below {n₀ : Nat} {w w' : World} {a : Option Addr} {len : Nat} {c : Nat → Int} (h : Below n₀ w w') (hc : Ints n₀ w a len c) : Ints n₀ w' a len c :=
  ⟨hc.1, hc.2.imp id fun ⟨b, off, ha, hb, hc⟩ => ⟨b, off, ha, hb, fun k hk => (h.cell (p := ⟨b, off + k, none⟩) hb).trans (hc k hk)⟩⟩

theorem Ints.mono {n₀ n₁ : Nat} {w : World} {a : Option Addr} {len : Nat} {c : Nat → Int} (h : n₀ ≤ n₁) (hc : Ints n₀ w a len c) : Ints n₁ w a len c :=
  ⟨hc.1, hc.2.imp id fun ⟨b, off, ha, hb, hc⟩ => ⟨b, off, ha, by omega, hc⟩⟩

def maxGap (e : Nat → E) (len : Nat) (c : Nat → Int) (k : Nat) : Nat := most ((List.range k).map fun j => gapOf e len (c j))
theorem maxGap_succ (e : Nat → E) (len : Nat) (c : Nat → Int) (k : Nat) : maxGap e len c (k + 1) = max (maxGap e len c k) (gapOf e len (c k)) := by
  simp [maxGap, List.range_succ, most_snoc]
theorem maxGap_le (e : Nat → E) (len : Nat) (c : Nat → Int) (k : Nat) : maxGap e len c k ≤ len :=
  most_le fun x hx => by
    obtain ⟨j, _, rfl⟩ := List.mem_map.1 hx
    exact gapOf_le _ _ _

set_option maxHeartbeats 1000000 in
theorem window_any (a ac : Option Addr) (len cap lc cc : Nat) (e : Nat → E) (c : Nat → Int) (w : World) (hI : Ents w.heap.size w a len e) (hC : Ints w.heap.size w ac lc c) :
    Calls Try.prog 6 #[.slice a len cap, .slice ac lc cc] w fun r w' => r = .returned (.int .i64 (maxGap e len c lc + 1 : Nat)) ∧ Below w.heap.size w w' := by
  obtain ⟨hreach, hC⟩ := hC
  have hl := maxGap_le e len c lc
  have hI1 := hI.1
  go_enter Try.func6, Try.ntmps6
  go_wp2_with fail
  go_loopw [5, 10] (fun v i wr => ∃ k : Nat, k ≤ lc ∧ i = .int .i64 k ∧ v = .int .i64 (maxGap e len c k : Nat) ∧ Below w.heap.size w wr) (fun _ i _ => lc - (intOf i).toNat)
  case atStart => exact ⟨0, Nat.zero_le _, rfl, rfl, Below.refl _ _⟩
  case round =>
    obtain ⟨k, hk, rfl, rfl, hB⟩ := hrel
    by_cases hlt : k < lc
    · rcases hC with h0 | ⟨b, off, rfl, hb, hc⟩
      · omega
      have hck := (hB.cell (p := ⟨b, off + k, none⟩) hb).trans (hc k hlt)
      have hIw : Ents wr.heap.size wr a len e := (hI.below hB).mono hB.size
      have HIw := Lib.hid hIw
      have Hs := Lib.hid (maxGap_succ e len c k)
      have hg := gapOf_le e len (c k)
      have hm := maxGap_le e len c k
      clear hIw hI hc hl
      go_wp2_with (go_at_call 5; refine (gap_any _ _ _ _ e _ HIw.out).mono ?_; rintro r w' ⟨rfl, hb'⟩)
      all_goals
        go_roundw
        case rel =>
          refine ⟨k + 1, by omega, by go_num, ?_, hB.trans (hb'.mono hB.size)⟩
          rw [Hs.out]
          congr 2
          omega
        case measure => simp [intOf]; omega
    · obtain rfl : k = lc := by omega
      go_wp2_with fail
      go_ret
      exact ⟨by go_num, hB⟩
end Go.Proofs.Ytnldnhmkljfodaa
