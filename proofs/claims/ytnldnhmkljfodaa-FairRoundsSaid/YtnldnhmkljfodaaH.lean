/- A part of the proof that fair.Window is one more than the greatest of its gaps (contracts of the functions of package fair). No condition. -/
import Derived.Test.YtnldnhmkljfodaaG
namespace Go.Proofs.Ytnldnhmkljfodaa
open Go.RowKit

def fs (k : Nat) : Int := if k = 0 then 4 else 7
def le (k : Nat) : E := stepE (fs (k % 2))

theorem ints_lit (w : World) (n₀ : Nat) (h : w.heap.size < n₀) : Ints n₀ (w.alloc (.cells #[.int .i64 4, .int .i64 7] 3)) (some ⟨w.heap.size, 0, none⟩) 2 fs := by
  refine ⟨by omega, .inr ⟨_, 0, rfl, h, ?_⟩⟩
  intro k hk
  match k, hk with
  | 0, _ => simp [fs]
  | 1, _ => simp [fs]

set_option maxRecDepth 100000 in
set_option maxHeartbeats 1000000 in
theorem lives_any (w : World) : Calls Try.prog 7 #[] w fun r w' => r = .returned (.bool true) ∧ Below w.heap.size w w' := by
  go_enter Try.func7, Try.ntmps7
  go_wp2_with fail
  refine (draws_one _).mono ?_
  rintro r w1 ⟨⟨v, rfl, hown⟩, hb1⟩
  obtain ⟨g, cap, rfl⟩ := ownsRow_succ hown
  have hd := hown.cellAt 0 (by omega)
  have hdc : w1.cell? ⟨g, 0, none⟩ = some (.int .u64 16294208416658607535) := hd
  have hg : g < w1.heap.size := (hown.lt g rfl).2
  have HD := Lib.hid hdc
  clear hd hown hdc
  go_wp2_with fail
  have hs1 := hb1.size
  refine (round_any _ _ _ fs 3 _ (by omega) (by omega) (by omega) (ints_lit w1 _ (by simp))).mono ?_
  rintro r w2 ⟨v2, rfl, hown2, hb2⟩
  rw [show cutN 3 = 3 from by decide, show (fun i => stepE (fs (i % 2))) = le from rfl] at hown2
  obtain ⟨a, cap2, hv2, hents⟩ := ents_of_row (by omega) hown2
  subst hv2
  obtain ⟨g2, cap3, hv3⟩ := ownsRow_succ hown2
  obtain ⟨rfl, -, rfl⟩ : a = some ⟨g2, 0, none⟩ ∧ True ∧ cap2 = cap3 := by cases hv3; exact ⟨rfl, trivial, rfl⟩
  have hc1 : w2.cell? ⟨g2, 1, none⟩ = some (.int .i64 4) := (hown2.cellAt 1 (by omega)).trans rfl
  have hc6 : w2.cell? ⟨g2, 6, none⟩ = some (.int .i64 7) := (hown2.cellAt 6 (by omega)).trans rfl
  have hc11 : w2.cell? ⟨g2, 11, none⟩ = some (.int .i64 4) := (hown2.cellAt 11 (by omega)).trans rfl
  have hdc : w2.cell? ⟨g, 0, none⟩ = some (.int .u64 16294208416658607535) := (hb2.cell (p := ⟨g, 0, none⟩) (by simp; omega)).trans ((World.cell?_alloc_lt _ _ _ (by simpa using hg)).trans HD.out)
  have hB2 : Below w.heap.size w w2 := (hb1.alloc hs1 _).trans (hb2.mono (by simp; omega))
  have hE : ∀ o, Ents (w2.alloc o).heap.size (w2.alloc o) (some ⟨g2, 0, none⟩) 3 le := fun o => (hents.below ((Below.refl _ _).alloc (Nat.le_refl _) o)).mono (by simp)
  have HE := Lib.hid hE
  have HB := Lib.hid hB2
  clear hv3 hown2 hents hb2 hE hB2
  go_wp2_with fail
  refine (window_any _ _ _ _ _ _ le fs _ (HE.out _) (ints_lit w2 _ (by simp))).mono ?_
  rintro r w3 ⟨rfl, hb3⟩
  rw [show maxGap le 3 fs 2 + 1 = 2 from by decide]
  have hE3 := ((HE.out (.cells #[.int .i64 4, .int .i64 7] 3)).below hb3).mono hb3.size
  have hs2 := HB.out.size
  have hB3 : Below w.heap.size w w3 := (HB.out.alloc hs2 _).trans (hb3.mono (by simp; omega))
  have HE3 := Lib.hid hE3
  have HB3 := Lib.hid hB3
  clear hb3 hE3 hB3
  go_wp2_with fail
  refine (gap_any _ _ _ _ le _ HE3.out).mono ?_
  rintro r w4 ⟨rfl, hb4⟩
  rw [show gapOf le 3 7 = 1 from by decide]
  have hs3 := HB3.out.size
  go_wp2_with fail
  go_ret
  exact ⟨rfl, HB3.out.trans (hb4.mono hs3)⟩
end Go.Proofs.Ytnldnhmkljfodaa
