/- Contracts of the document's row (package pinfoldref28): a step. No condition. -/
import Derived.Test.YtnjondphbfniaaaK
namespace Go.Proofs.Ytnjondphbfniaaa
open Go.RowKit

theorem rgo_n (r : Dq) (i : Nat) : (rgo r i).2.2.2.n = r.n := by
  unfold rgo
  (repeat' split) <;> rfl

theorem rgo_how (r : Dq) (i : Nat) : 0 ≤ (rgo r i).1 ∧ (rgo r i).1 ≤ 5 := by
  unfold rgo
  (repeat' split) <;> (simp only []; (first | omega | (split <;> omega)))

/-- What the switch leaves. -/
def Sw (w wr : World) (A rb sb qb rn cs cq : Nat) (g : Int × Int × Pt × Dq) (s8 s9 : Value) : Prop :=
  s8 = .int .i64 g.1 ∧ s9 = .int .i64 g.2.1 ∧ Cp wr A g.2.2.1 ∧ IsRf wr rb sb qb rn cs cq g.2.2.2 ∧ Frm (Rfb rb sb qb) w wr

end Go.Proofs.Ytnjondphbfniaaa
