/- Arguments of the laws of layer 29: lists of calls in memory. No condition. -/
import Derived.Test.YthhcmilijiccmaaF
namespace Go.Proofs.Ythhcmilijiccmaa
open Go.RowKit

/-- An operation. -/
structure Opn where
  kind : Int
  who : Int

/-- The cells of a slice of operations. -/
def OpCells (w : World) (b off len : Nat) (e : Nat → Opn) : Prop :=
  ∀ k, k < len → w.cell? ⟨b, off + k * 2, none⟩ = some (.int .u64 (e k).kind) ∧ w.cell? ⟨b, off + k * 2 + 1, none⟩ = some (.int .i64 (e k).who)

theorem OpCells.below {n₀ : Nat} {w w' : World} {b off len : Nat} {e : Nat → Opn} (hb : b < n₀) (h : Below n₀ w w') (hc : OpCells w b off len e) : OpCells w' b off len e := fun k hk =>
  ⟨(h.cell (p := ⟨b, _, none⟩) hb).trans (hc k hk).1, (h.cell (p := ⟨b, _, none⟩) hb).trans (hc k hk).2⟩

def SlOk (a : Option Addr) (len cap : Nat) : Prop := (a = none ∧ len = 0 ∧ cap = 0) ∨ ∃ x, a = some x ∧ len ≤ cap ∧ cap ≤ 9223372036854775807
def RawO (w : World) (a : Option Addr) (len : Nat) (e : Nat → Opn) : Prop := len = 0 ∨ ∃ b off, a = some ⟨b, off, none⟩ ∧ b < w.heap.size ∧ OpCells w b off len e ∧ ∀ k, k < len → 0 ≤ (e k).kind ∧ (e k).kind ≤ 18446744073709551615

theorem RawO.take {w : World} {a : Option Addr} {len m : Nat} {e : Nat → Opn} (h : RawO w a len e) (hm : m ≤ len) : RawO w a m e := by
  rcases h with h | ⟨b, off, ha, hb, hc, hr⟩
  · exact .inl (by omega)
  · exact .inr ⟨b, off, ha, hb, fun k hk => hc k (by omega), fun k hk => hr k (by omega)⟩

end Go.Proofs.Ythhcmilijiccmaa
