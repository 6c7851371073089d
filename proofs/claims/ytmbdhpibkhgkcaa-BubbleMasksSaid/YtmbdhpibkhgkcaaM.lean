/- Burst's functions within (package bubble). No condition. -/
import Derived.Test.YtmbdhpibkhgkcaaL
namespace Go.Proofs.Ytmbdhpibkhgkcaa
open Go.RowKit

section
variable {w w' : World} {base fb n : Nat} {lv : Value} {bs : Nat → Bk}

/-- Whether a bubble lies in another one, and is sealed. -/
def ownB (bs : Nat → Bk) (b : Int) (i : Nat) : Bool := bs i 0 == b && bs i 17 == 2

set_option maxRecDepth 100000 in
theorem Own_any (h : IsFo w base fb lv n bs) {F B : Nat} {b : Int} (hF : w.cell? ⟨F, 0, none⟩ = some (.pointer (some ⟨fb, 0, none⟩))) (hB : w.cell? ⟨B, 0, none⟩ = some (.int .i64 b)) {i : Nat} (hi : i < n) :
    Calls Try.prog 25 #[.int .i64 i, .pointer (some ⟨F, 0, none⟩), .pointer (some ⟨B, 0, none⟩)] w fun r w' => r = .returned (.bool (ownB bs b i)) ∧ ∃ k, w' = w.drewN k := by
  have hmost := h.most
  obtain ⟨la, lcap, rfl, hg⟩ := h.lvForm
  obtain ⟨g, rfl, hgb⟩ := hg (by omega)
  have c0 := h.c0
  have c1 := h.cell hi (o := 0) (by omega)
  have c2 := h.cell hi (o := 17) (by omega)
  rw [show buKind 0 = .i64 from rfl, Nat.add_zero] at c1
  rw [show buKind 17 = .i64 from rfl] at c2
  have hiI : (i : Int) < n := by omega
  unfold ownB
  generalize bs i 0 = u at *
  generalize bs i 17 = st at *
  clear h hg
  by_cases e : u = b
  · have n1 : (u == b) = true := by simpa using e
    rw [n1]
    clear e
    by_cases e2 : st = 2
    · subst e2
      go_enter Try.func25, Try.ntmps25
      go_wp2_with fail
      go_quiet (fail)
      go_wp2_with fail
      go_ret
      exact ⟨rfl, _, rfl⟩
    · have n2 : (st == 2) = false := by simpa using e2
      go_enter Try.func25, Try.ntmps25
      go_wp2_with fail
      go_quiet (fail)
      go_wp2_with fail
      go_ret
      exact ⟨by rw [n2]; rfl, _, rfl⟩
  · have n1 : (u == b) = false := by simpa using e
    rw [n1]
    clear e
    go_enter Try.func25, Try.ntmps25
    go_wp2_with fail
    go_quiet (fail)
    go_wp2_with fail
    go_ret
    exact ⟨rfl, _, rfl⟩

def trB (home : Int) (x : Bk) : Bk := setO (setO x 17 3) 18 home

set_option maxRecDepth 100000 in
theorem OwnDo_any {g cap H : Nat} {home : Int} (h : IsFo w base fb (.slice (some ⟨g, 0, none⟩) n cap) n bs) (hH : w.cell? ⟨H, 0, none⟩ = some (.int .i64 home)) {i : Nat} (hi : i < n) :
    Calls Try.prog 27 #[.pointer (some ⟨g, i * 19, none⟩), .pointer (some ⟨H, 0, none⟩)] w
      fun r w' => r = .returned (.tuple #[]) ∧ IsFo w' base fb (.slice (some ⟨g, 0, none⟩) n cap) n (updT bs i (trB home (bs i))) ∧ Frm (FoS fb (.slice (some ⟨g, 0, none⟩) n cap)) w w' := by
  have f1 := h.fz (i * 19 + 17)
  have f2 := h.fz (i * 19 + 18)
  have d1 := h.cell hi (o := 17) (by omega)
  have d2 := h.cell hi (o := 18) (by omega)
  rw [show buKind 17 = .i64 from rfl] at d1
  rw [show buKind 18 = .i64 from rfl] at d2
  have hW1 := h.wcell hi (o := 17) (by omega) (by omega) rfl 3
  have hW2 := hW1.1.wcell hi (o := 18) (by omega) (by omega) rfl home
  rw [updT_same, updT_two] at hW2
  have HW := Lib.hid (And.intro hW2.1 (hW1.2.trans hW2.2))
  clear h hW1 hW2
  go_enter Try.func27, Try.ntmps27
  go_wp2_with fail
  go_region
  go_wp2_with fail
  go_end0
  exact ⟨rfl, HW.out.1.drewN 1, HW.out.2.drewN 1⟩
end
end Go.Proofs.Ytmbdhpibkhgkcaa
