/- The document's answer for the lock (package pinfoldref29): the contract of Step, continued. No condition. -/
import Derived.Test.YthhcmilijiccmaaI
import Derived.Test.YthhcmilijiccmaaJ
namespace Go.Proofs.Ythhcmilijiccmaa
open Go.RowKit

set_option maxRecDepth 100000 in
set_option maxHeartbeats 2000000 in
theorem RStep_idle (B C : Nat → Nat) (L : Lock) (A : Nat → Int) (i : Nat) (w : World) (h : IsRef w B C L A) (ha : AtOk L A) (ok : L.Ok) (hi : i < L.n) (hs : (L.ps i).state = 0 ∨ (L.ps i).state = 2) :
    Calls Try.prog 14 #[.pointer (some ⟨B 0, 0, none⟩), .int .i64 i] w (RPost B C L i w) := by
  have hn := ok.n
  have hr := ha.range i
  obtain ⟨t0, t1, t2, t3, t4, t5, c1, c2, c3, c4, c5⟩ := facts h hi
  have hh : L.has i = true := Lock.has_iff.2 ⟨by omega, by omega⟩
  have HR := Lib.hid (show L.step i = (false, 5, L) by rcases hs with e | e <;> simp [Lock.step, hh, e])
  have HL := Lib.hid h
  have HA := Lib.hid ha
  rcases hs with hs | hs
  all_goals
    rw [hs] at c3
    clear h ha ok hs hh t0 t1 t2 t5 c1 c2 c5
    generalize A i = a at *
    go_enter Try.func14, Try.ntmps14
    go_wp2
    go_ret2
    unfold RPost
    rw [HR.out]
    exact ⟨rfl, ⟨A, HL.out, HA.out⟩, Frm.refl _ _⟩

/-- A step, as the document's answer does it. -/
theorem RStep_any (B C : Nat → Nat) (L : Lock) (A : Nat → Int) (who : Int) (w : World) (h : IsRef w B C L A) (ha : AtOk L A) (ok : L.Ok) :
    Calls Try.prog 14 #[.pointer (some ⟨B 0, 0, none⟩), .int .i64 who] w (RPost B C L who w) := by
  cases hh : L.has who with
  | false => exact RStep_no B C L A who w h ha ok hh
  | true =>
    obtain ⟨h0, h1⟩ := Lock.has_iff.1 hh
    obtain ⟨i, rfl⟩ := Int.eq_ofNat_of_zero_le h0
    have hi : i < L.n := by omega
    have hp := ok.ps i
    have hst := hp.state
    by_cases s1 : (L.ps i).state = 1
    · have h3 := hp.taking s1
      rcases (show (L.ps i).step = 1 ∨ (L.ps i).step = 2 ∨ (L.ps i).step = 3 ∨ (L.ps i).step = 4 ∨ (L.ps i).step = 5 by omega) with e | e | e | e | e
      · exact RStep11 B C L A i w h ha ok hi s1 e
      · exact RStep12 B C L A i w h ha ok hi s1 e
      · by_cases ht : L.tail = -1
        · exact RStep13a B C L A i w h ha ok hi s1 e ht
        · exact RStep13b B C L A i w h ha ok hi s1 e ht
      · exact RStep14 B C L A i w h ha ok hi s1 e
      · cases hw : (L.ps i).waits with
        | false => exact RStep15a B C L A i w h ha ok hi s1 e hw
        | true => exact RStep15b B C L A i w h ha ok hi s1 e hw
    by_cases s3 : (L.ps i).state = 3
    · have h3 := hp.giving s3
      rcases (show (L.ps i).step = 1 ∨ (L.ps i).step = 2 ∨ (L.ps i).step = 3 by omega) with e | e | e
      · by_cases hx : (L.ps i).next = -1
        · exact RStep31a B C L A i w h ha ok hi s3 e hx
        · exact RStep31b B C L A i w h ha ok hi s3 e hx
      · by_cases ht : L.tail = i
        · exact RStep32a B C L A i w h ha ok hi s3 e ht
        · exact RStep32b B C L A i w h ha ok hi s3 e ht
      · exact RStep33 B C L A i w h ha ok hi s3 e
    · exact RStep_idle B C L A i w h ha ok hi (by omega)
end Go.Proofs.Ythhcmilijiccmaa
