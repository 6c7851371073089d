/- A part of the proof that fair.Window is one more than the greatest of its gaps (contracts of the functions of package fair). No condition. -/
import Derived.Test.YtnldnhmkljfodaaRows
import Derived.WalkKit
import Derived.WalkSpells
import Derived.BigQuiet
import Derived.Deep.QuietTactic
namespace Go.Proofs.Ytnldnhmkljfodaa
open Go.RowKit

/-- An entry of a script. -/
structure E where
  k : Int
  a : Int
  b : Int
  c : Int
  d : Int

def E.cells (e : E) : Array Value := #[.int .i64 e.k, .int .i64 e.a, .int .i64 e.b, .int .i64 e.c, .int .u64 e.d]

/-- Is an entry a step of a worker? -/
def isB (e : E) (cpu : Int) : Bool := e.k == 1 && e.a == cpu

theorem is_any (e : E) (cpu : Int) (w : World) :
    Calls Try.prog 17 #[.agg #[.int .i64 e.k, .int .i64 e.a, .int .i64 e.b, .int .i64 e.c, .int .u64 e.d], .int .i64 cpu] w
      fun r w' => r = .returned (.bool (isB e cpu)) ∧ w' = w.alloc (.cells #[.int .i64 e.k, .int .i64 e.a, .int .i64 e.b, .int .i64 e.c, .int .u64 e.d] 31) := by
  obtain ⟨k, a, b, c, d⟩ := e
  by_cases h1 : k = 1
  · subst h1
    by_cases h2 : a = cpu
    · subst h2
      go_enter Try.func17, Try.ntmps17
      go_wp2
      go_ret
      exact ⟨by simp [isB], rfl⟩
    · have h2' : (a == cpu) = false := by simpa using h2
      go_enter Try.func17, Try.ntmps17
      go_wp2
      go_ret
      exact ⟨by simp [isB, h2'], rfl⟩
  · have h1' : (k == 1) = false := by simpa using h1
    go_enter Try.func17, Try.ntmps17
    go_wp2
    go_ret
    exact ⟨by simp [isB, h1'], rfl⟩

theorem gaps_any (a : Option Addr) (len cap : Nat) (cpu : Int) (w : World) :
    Calls Try.prog 10 #[.slice a len cap, .int .i64 cpu] w
      fun r w' => r = .returned (.func (.func 16) #[] #[.pointer (some ⟨w.heap.size, 0, none⟩), .pointer (some ⟨w.heap.size + 1, 0, none⟩)]) ∧
        w' = (w.alloc (.cells #[.slice a len cap] 22)).alloc (.cells #[.int .i64 cpu] 3) := by
  go_enter Try.func10, Try.ntmps10
  go_wp2
  go_ret
  exact ⟨rfl, rfl⟩
end Go.Proofs.Ytnldnhmkljfodaa
