/-
  No cell of these rows narrows 'for every input' (looked for: loops, veiled, ifaces, maps, wideKeys, modest, calm, conditions, laid).
  DERIVED. THE GIVEN ROWS OF THIS SEAT. 3 by the template 'for every input the law returns true; each argument reads behind the call as it read before'; 0 by the template 'total and deterministic' (their statements: YtnjondphbfniaaaTotals.lean).
  GIVEN WITH THE SEED: the statements are not yours to turn. If you find one false, say at which input.
  Laid BY PROGRAM, IN A SANDBOX (cutbox-rows.mjs): the forced cells as the released guide's own fill.sh prints them over the translation 4da8f3825778e180… (all of the seat's roots in one cut). By AI agents, Wed Nov 11 2026. No macro, syntax, notation, axiom, sorry.
-/
import Derived.Test.YtnjondphbfniaaaChecked
import GoSem.Claim
import GoSem.ClaimJoined
import GoSem.ClaimMapViews
import Derived.JoinedTies
import Derived.KernelRfl
namespace Go.Proofs.Ytnjondphbfniaaa
/- THE CELL 'sum', in the pinned program and in every row, IS THE sha256 OF THE DUMP (.gsa) THAT YtnjondphbfniaaaProg.lean LOADS. Nothing in Lean hashes anything: it is a label: what it is worth is what the hold of that sum in a sandbox is worth. -/
noncomputable def Try.pinned : Pinned := { name := "ytnjondphbfniaaa", sum := "4da8f3825778e180f51fc2407773a139269579b43b1b4eec81466ba5d5d35c21", checked := Try.checked }
namespace Rows
def none {H : Type} : Left H := { results := [], args := [] }

/-- 'pinfoldlaw28.StealPlays': WHATEVER THE INPUT: true; the input reads as it did. -/
def stealPlaysSpec : ChangeSpec := { name := "stealPlays", fn := fun _ => fun
  | [d1, d2, d3] => { results := [.lit (.bool true)], args := [d1, d2, d3] }
  | _ => none }
def stealPlaysRow : OpenClaim := { program := "ytnjondphbfniaaa", sum := "4da8f3825778e180f51fc2407773a139269579b43b1b4eec81466ba5d5d35c21", func := "pinfold/pinfoldlaw28.StealPlays", spec := "stealPlays", apart := false }
def StealPlaysSaid : Prop := stealPlaysRow.holds Try.pinned (OpenSpec.ofChange stealPlaysSpec)

/-- ITS FALSE NEIGHBOUR: 'it returns false'. Refute it at one input. -/
def stealPlaysWrong : ChangeSpec := { name := "stealPlays", fn := fun _ => fun
  | [d1, d2, d3] => { results := [.lit (.bool false)], args := [d1, d2, d3] }
  | _ => none }
def StealPlaysWrongFalsely : Prop := stealPlaysRow.holds Try.pinned (OpenSpec.ofChange stealPlaysWrong)

/-- 'pinfoldlaw28.StealOnce': WHATEVER THE INPUT: true; the input reads as it did. -/
def stealOnceSpec : ChangeSpec := { name := "stealOnce", fn := fun _ => fun
  | [d1, d2, d3] => { results := [.lit (.bool true)], args := [d1, d2, d3] }
  | _ => none }
def stealOnceRow : OpenClaim := { program := "ytnjondphbfniaaa", sum := "4da8f3825778e180f51fc2407773a139269579b43b1b4eec81466ba5d5d35c21", func := "pinfold/pinfoldlaw28.StealOnce", spec := "stealOnce", apart := false }
def StealOnceSaid : Prop := stealOnceRow.holds Try.pinned (OpenSpec.ofChange stealOnceSpec)

/-- ITS FALSE NEIGHBOUR: 'it returns false'. Refute it at one input. -/
def stealOnceWrong : ChangeSpec := { name := "stealOnce", fn := fun _ => fun
  | [d1, d2, d3] => { results := [.lit (.bool false)], args := [d1, d2, d3] }
  | _ => none }
def StealOnceWrongFalsely : Prop := stealOnceRow.holds Try.pinned (OpenSpec.ofChange stealOnceWrong)

/-- 'pinfoldlaw28.StealOrder': WHATEVER THE INPUT: true; the input reads as it did. -/
def stealOrderSpec : ChangeSpec := { name := "stealOrder", fn := fun _ => fun
  | [d1, d2] => { results := [.lit (.bool true)], args := [d1, d2] }
  | _ => none }
def stealOrderRow : OpenClaim := { program := "ytnjondphbfniaaa", sum := "4da8f3825778e180f51fc2407773a139269579b43b1b4eec81466ba5d5d35c21", func := "pinfold/pinfoldlaw28.StealOrder", spec := "stealOrder", apart := false }
def StealOrderSaid : Prop := stealOrderRow.holds Try.pinned (OpenSpec.ofChange stealOrderSpec)

/-- ITS FALSE NEIGHBOUR: 'it returns false'. Refute it at one input. -/
def stealOrderWrong : ChangeSpec := { name := "stealOrder", fn := fun _ => fun
  | [d1, d2] => { results := [.lit (.bool false)], args := [d1, d2] }
  | _ => none }
def StealOrderWrongFalsely : Prop := stealOrderRow.holds Try.pinned (OpenSpec.ofChange stealOrderWrong)

/- THE SECOND FORM. 'bulk': how many values and letters a reading holds, each counted each time it is reached (what is shared counts as often as it is met; a slice's spare places count too). A statement '..UptoSaid' is the law's where the arguments, and the package variables that the reading takes, are together of bulk at most 1048576: NARROWER than '..Said'. Prove '..Said' where nothing that the law and all that it calls make is longer than what came in: it says more and counts as full. Else prove '..UptoSaid'. A law counts once. -/
mutual
def uptoBulk {H : Type} : DataW H → Nat
  | .lit (.string bytes) => bytes.length + 1
  | .lit _ => 1
  | .nil => 1
  | .ptr d => uptoBulk d + 1
  | .slice elems spare => uptoBulkAll elems + uptoBulkAll spare + 1
  | .agg parts => uptoBulkAll parts + 1
  | .iface _ d => uptoBulk d + 1
  | .map entries => uptoBulkEntries entries + 1
  | .held _ => 1
def uptoBulkAll {H : Type} : List (DataW H) → Nat
  | [] => 0
  | d :: r => uptoBulk d + uptoBulkAll r
def uptoBulkEntries {H : Type} : List (Lit × DataW H) → Nat
  | [] => 0
  | x :: r => uptoBulkEntry x + uptoBulkEntries r
def uptoBulkEntry {H : Type} : Lit × DataW H → Nat
  | (.string bytes, d) => bytes.length + uptoBulk d + 1
  | (_, d) => uptoBulk d + 1
 end
def uptoSmall : (H : Type) → List (DataW H) → Bool := fun _ ds => decide (uptoBulkAll ds ≤ 1048576)
def OpenSpec.upto (s : _root_.Go.ChangeSpec) : _root_.Go.OpenSpec := { _root_.Go.OpenSpec.ofChange s with cond := some uptoSmall }

/-- 'pinfoldlaw28.StealPlays', WHERE WHAT IT READS IS OF BULK AT MOST 1048576: true; the input reads as it did. -/
def stealPlaysUptoRow : OpenClaim := { program := "ytnjondphbfniaaa", sum := "4da8f3825778e180f51fc2407773a139269579b43b1b4eec81466ba5d5d35c21", func := "pinfold/pinfoldlaw28.StealPlays", spec := "stealPlays", apart := false, narrowed := true }
def StealPlaysUptoSaid : Prop := stealPlaysUptoRow.holds Try.pinned (OpenSpec.upto stealPlaysSpec)

/-- 'pinfoldlaw28.StealOnce', WHERE WHAT IT READS IS OF BULK AT MOST 1048576: true; the input reads as it did. -/
def stealOnceUptoRow : OpenClaim := { program := "ytnjondphbfniaaa", sum := "4da8f3825778e180f51fc2407773a139269579b43b1b4eec81466ba5d5d35c21", func := "pinfold/pinfoldlaw28.StealOnce", spec := "stealOnce", apart := false, narrowed := true }
def StealOnceUptoSaid : Prop := stealOnceUptoRow.holds Try.pinned (OpenSpec.upto stealOnceSpec)

/-- 'pinfoldlaw28.StealOrder', WHERE WHAT IT READS IS OF BULK AT MOST 1048576: true; the input reads as it did. -/
def stealOrderUptoRow : OpenClaim := { program := "ytnjondphbfniaaa", sum := "4da8f3825778e180f51fc2407773a139269579b43b1b4eec81466ba5d5d35c21", func := "pinfold/pinfoldlaw28.StealOrder", spec := "stealOrder", apart := false, narrowed := true }
def StealOrderUptoSaid : Prop := stealOrderUptoRow.holds Try.pinned (OpenSpec.upto stealOrderSpec)

end Rows
end Go.Proofs.Ytnjondphbfniaaa
