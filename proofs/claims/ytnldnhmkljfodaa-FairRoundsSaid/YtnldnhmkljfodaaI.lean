/- A part of the proof that fair.Window is one more than the greatest of its gaps (contracts of the functions of package fair). No condition. -/
import Derived.Test.YtnldnhmkljfodaaH
import Derived.Deep.DeepCutAuto
namespace Go.Proofs.Ytnldnhmkljfodaa
open Go.RowKit

/-- A slice's value: nil, or with an address. -/
def SlOk (a : Option Addr) (len cap : Nat) : Prop := (a = none ∧ len = 0 ∧ cap = 0) ∨ ∃ x, a = some x ∧ len ≤ cap ∧ cap ≤ 9223372036854775807

/-- The cells of an argument that is a slice of entries, or of numbers. -/
def RawE (w : World) (a : Option Addr) (len : Nat) (e : Nat → E) : Prop := len = 0 ∨ ∃ b off, a = some ⟨b, off, none⟩ ∧ b < w.heap.size ∧ Cells w b off len e
def RawI (w : World) (a : Option Addr) (len : Nat) (c : Nat → Int) : Prop := len = 0 ∨ ∃ b off, a = some ⟨b, off, none⟩ ∧ b < w.heap.size ∧ ∀ k, k < len → w.cell? ⟨b, off + k, none⟩ = some (.int .i64 (c k))

theorem RawE.take {w : World} {a : Option Addr} {len m : Nat} {e : Nat → E} (h : RawE w a len e) (hm : m ≤ len) (h6 : m ≤ 1000) : Ents w.heap.size w a m e :=
  ⟨by omega, by
    rcases h with h | ⟨b, off, ha, hb, hc⟩
    · exact .inl (by omega)
    · exact .inr ⟨b, off, ha, hb, fun k hk => hc k (by omega)⟩⟩

theorem RawI.take {w : World} {a : Option Addr} {len m : Nat} {c : Nat → Int} (h : RawI w a len c) (hm : m ≤ len) (h6 : m ≤ 1000) : Ints w.heap.size w a m c :=
  ⟨by omega, by
    rcases h with h | ⟨b, off, ha, hb, hc⟩
    · exact .inl (by omega)
    · exact .inr ⟨b, off, ha, hb, fun k hk => hc k (by omega)⟩⟩

set_option maxRecDepth 100000 in
set_option maxHeartbeats 2000000 in
theorem law_any (a ac : Option Addr) (len cap lc cc : Nat) (e : Nat → E) (c : Nat → Int) (w : World) (ha : SlOk a len cap) (hac : SlOk ac lc cc) (hI : RawE w a len e) (hC : RawI w ac lc c) :
    Calls Try.prog 3 #[.slice a len cap, .slice ac lc cc] w fun r w' => r = .returned (.bool true) ∧ Below w.heap.size w w' := by
  have HI := Lib.hid hI
  have HC := Lib.hid hC
  clear hI hC
  go_enter Try.func3, Try.ntmps3
  go_upto_region 1 with fail
  go_cut [0, 1] (fun u0 u1 wr => ∃ (m mc cap' cc' nq : Nat), u0 = .slice a m cap' ∧ u1 = .slice ac mc cc' ∧ m ≤ len ∧ m ≤ 60 ∧ mc ≤ lc ∧ mc ≤ 10 ∧ wr = w.drewN nq)
  case first =>
    rcases ha with ⟨rfl, rfl, rfl⟩ | ⟨x, rfl, hcap, hm⟩ <;> rcases hac with ⟨rfl, rfl, rfl⟩ | ⟨xc, rfl, hcc, hmc⟩
    · go_quiet (fail)
      go_wp2_with fail
      go_meet
      case rel => exact ⟨0, 0, 0, 0, nq, rfl, rfl, by omega, by omega, by omega, by omega, rfl⟩
    · by_cases h2 : (10 : Int) < lc
      all_goals
        go_quiet (fail)
        go_wp2_with fail
        go_meet
        case rel => exact ⟨0, _, 0, _, nq, rfl, rfl, by omega, by omega, by omega, by omega, rfl⟩
    · by_cases h1 : (60 : Int) < len
      all_goals
        go_quiet (fail)
        go_wp2_with fail
        go_meet
        case rel => exact ⟨_, 0, _, 0, nq, rfl, rfl, by omega, by omega, by omega, by omega, rfl⟩
    · by_cases h1 : (60 : Int) < len <;> by_cases h2 : (10 : Int) < lc
      all_goals
        go_quiet (fail)
        go_wp2_with fail
        go_meet
        case rel => exact ⟨_, _, _, _, nq, rfl, rfl, by omega, by omega, by omega, by omega, rfl⟩
  case rest =>
    obtain ⟨m, mc, cap', cc', nq, rfl, rfl, hm, hm6, hmc, hm1, rfl⟩ := hcut
    have hI' := HI.out.take hm (by omega)
    have hC' := HC.out.take hmc (by omega)
    clear HI HC ha hac
    have hB0 : Below w.heap.size w (w.drewN nq) := ⟨rfl, rfl, rfl, Nat.le_refl _, fun _ _ => rfl⟩
    have HI := Lib.hid hI'
    have HC := Lib.hid hC'
    clear hI' hC'
    go_wp2_with fail
    go_loopw [5, 21] (fun v i wr => ∃ k : Nat, k ≤ mc ∧ i = .int .i64 k ∧ v = .int .i64 (maxGap e m c k : Nat) ∧ Below w.heap.size w wr) (fun _ i _ => mc - (intOf i).toNat)
    case atStart => exact ⟨0, Nat.zero_le _, rfl, rfl, hB0⟩
    case round =>
      obtain ⟨k, hk, rfl, rfl, hB⟩ := hrel
      clear hB0
      have hg := maxGap_le e m c k
      by_cases hlt : k < mc
      · rcases HC.out.2 with h0 | ⟨b, off, rfl, hb, hc⟩
        · omega
        have hck := (hB.cell (p := ⟨b, off + k, none⟩) hb).trans (hc k hlt)
        have hIw : Ents wr.heap.size wr a m e := (HI.out.below hB).mono hB.size
        have HIw := Lib.hid hIw
        have Hs := Lib.hid (maxGap_succ e m c k)
        have hg1 := gapOf_le e m (c k)
        have hng : ¬ ((gapOf e m (c k) : Nat) : Int) < 0 := by omega
        have hng2 : ¬ (m : Int) < (gapOf e m (c k) : Nat) := by omega
        clear hIw hc
        go_wp2_with (go_at_call 5; refine (gap_any _ _ _ _ e _ HIw.out).mono ?_; rintro r w' ⟨rfl, hb'⟩)
        all_goals
          go_roundw
          case rel =>
            refine ⟨k + 1, by omega, by go_num, ?_, hB.trans (hb'.mono hB.size)⟩
            rw [Hs.out]
            congr 2
            omega
          case measure => simp [intOf]; omega
      · obtain rfl : k = mc := by omega
        have hIw : Ents wr.heap.size wr a m e := (HI.out.below hB).mono hB.size
        have hCw : Ints wr.heap.size wr ac k c := (HC.out.below hB).mono hB.size
        have HIw := Lib.hid hIw
        have HCw := Lib.hid hCw
        have HB := Lib.hid hB
        clear hIw hCw
        have hs := hB.size
        go_wp2_with fail
        refine (window_any _ _ _ _ _ _ e c _ HIw.out HCw.out).mono ?_
        rintro r w' ⟨rfl, hb'⟩
        have hs' := hb'.size
        have hB' : Below w.heap.size w w' := HB.out.trans (hb'.mono hs)
        have HB' := Lib.hid hB'
        clear hb' hB' hB
        have heq : (((maxGap e m c k + 1 : Nat) : Int) == ((maxGap e m c k : Nat) : Int) + 1) = true := by simp
        go_wp2_with (go_at_call 7; refine (lives_any _).mono ?_; rintro r w2 ⟨rfl, hb2⟩)
        go_ret
        exact ⟨by simp, HB'.out.trans (hb2.mono (by omega))⟩
end Go.Proofs.Ytnldnhmkljfodaa
