/-
  No cell of these rows narrows 'for every input' (looked for: loops, veiled, ifaces, maps, wideKeys, modest, calm, conditions, laid).
  DERIVED. THE GIVEN ROWS OF THIS SEAT. 4 by the template 'for every input the law returns true; each argument reads behind the call as it read before'; 0 by the template 'total and deterministic' (their statements: YtmbdhpibkhgkcaaTotals.lean).
  GIVEN WITH THE SEED: the statements are not yours to turn. If you find one false, say at which input.
  Laid BY PROGRAM, IN A SANDBOX (cutbox-rows.mjs): the forced cells as the released guide's own fill.sh prints them over the translation 9237fe80ee34a40a… (all of the seat's roots in one cut). By AI agents, Wed Nov 11 2026. No macro, syntax, notation, axiom, sorry.
-/
import Derived.Test.YtmbdhpibkhgkcaaChecked
import GoSem.Claim
import GoSem.ClaimJoined
import GoSem.ClaimMapViews
import Derived.JoinedTies
import Derived.KernelRfl
namespace Go.Proofs.Ytmbdhpibkhgkcaa
/- THE CELL 'sum', in the pinned program and in every row, IS THE sha256 OF THE DUMP (.gsa) THAT YtmbdhpibkhgkcaaProg.lean LOADS. Nothing in Lean hashes anything: it is a label: what it is worth is what the hold of that sum in a sandbox is worth. -/
noncomputable def Try.pinned : Pinned := { name := "ytmbdhpibkhgkcaa", sum := "9237fe80ee34a40ad358b833b0c934ceb72c829e3193f887bdf7c0585b3d1f7b", checked := Try.checked }
namespace Rows
def none {H : Type} : Left H := { results := [], args := [] }

/-- 'pinfoldlaw13.BubbleMany': WHATEVER THE INPUT: true; the input reads as it did. -/
def bubbleManySpec : ChangeSpec := { name := "bubbleMany", fn := fun _ => fun
  | [d] => { results := [.lit (.bool true)], args := [d] }
  | _ => none }
def bubbleManyRow : OpenClaim := { program := "ytmbdhpibkhgkcaa", sum := "9237fe80ee34a40ad358b833b0c934ceb72c829e3193f887bdf7c0585b3d1f7b", func := "pinfold/pinfoldlaw13.BubbleMany", spec := "bubbleMany", unfollowed := true, recurses := true, apart := false }
def BubbleManySaid : Prop := bubbleManyRow.holds Try.pinned (OpenSpec.ofChange bubbleManySpec)

/-- ITS FALSE NEIGHBOUR: 'it returns false'. Refute it at one input. -/
def bubbleManyWrong : ChangeSpec := { name := "bubbleMany", fn := fun _ => fun
  | [d] => { results := [.lit (.bool false)], args := [d] }
  | _ => none }
def BubbleManyWrongFalsely : Prop := bubbleManyRow.holds Try.pinned (OpenSpec.ofChange bubbleManyWrong)

/-- 'pinfoldlaw13.BubblePlays': WHATEVER THE INPUT: true; the input reads as it did. -/
def bubblePlaysSpec : ChangeSpec := { name := "bubblePlays", fn := fun _ => fun
  | [d] => { results := [.lit (.bool true)], args := [d] }
  | _ => none }
def bubblePlaysRow : OpenClaim := { program := "ytmbdhpibkhgkcaa", sum := "9237fe80ee34a40ad358b833b0c934ceb72c829e3193f887bdf7c0585b3d1f7b", func := "pinfold/pinfoldlaw13.BubblePlays", spec := "bubblePlays", unfollowed := true, recurses := true, apart := false }
def BubblePlaysSaid : Prop := bubblePlaysRow.holds Try.pinned (OpenSpec.ofChange bubblePlaysSpec)

/-- ITS FALSE NEIGHBOUR: 'it returns false'. Refute it at one input. -/
def bubblePlaysWrong : ChangeSpec := { name := "bubblePlays", fn := fun _ => fun
  | [d] => { results := [.lit (.bool false)], args := [d] }
  | _ => none }
def BubblePlaysWrongFalsely : Prop := bubblePlaysRow.holds Try.pinned (OpenSpec.ofChange bubblePlaysWrong)

/-- 'pinfoldlaw13.BubbleMasks': WHATEVER THE INPUT: true; the input reads as it did. -/
def bubbleMasksSpec : ChangeSpec := { name := "bubbleMasks", fn := fun _ => fun
  | [d] => { results := [.lit (.bool true)], args := [d] }
  | _ => none }
def bubbleMasksRow : OpenClaim := { program := "ytmbdhpibkhgkcaa", sum := "9237fe80ee34a40ad358b833b0c934ceb72c829e3193f887bdf7c0585b3d1f7b", func := "pinfold/pinfoldlaw13.BubbleMasks", spec := "bubbleMasks", unfollowed := true, recurses := true, apart := false }
def BubbleMasksSaid : Prop := bubbleMasksRow.holds Try.pinned (OpenSpec.ofChange bubbleMasksSpec)

/-- ITS FALSE NEIGHBOUR: 'it returns false'. Refute it at one input. -/
def bubbleMasksWrong : ChangeSpec := { name := "bubbleMasks", fn := fun _ => fun
  | [d] => { results := [.lit (.bool false)], args := [d] }
  | _ => none }
def BubbleMasksWrongFalsely : Prop := bubbleMasksRow.holds Try.pinned (OpenSpec.ofChange bubbleMasksWrong)

/-- 'pinfoldlaw13.BubbleRegen': WHATEVER THE INPUT: true; the input reads as it did. -/
def bubbleRegenSpec : ChangeSpec := { name := "bubbleRegen", fn := fun _ => fun
  | [d1, d2] => { results := [.lit (.bool true)], args := [d1, d2] }
  | _ => none }
def bubbleRegenRow : OpenClaim := { program := "ytmbdhpibkhgkcaa", sum := "9237fe80ee34a40ad358b833b0c934ceb72c829e3193f887bdf7c0585b3d1f7b", func := "pinfold/pinfoldlaw13.BubbleRegen", spec := "bubbleRegen", unfollowed := true, recurses := true, apart := false }
def BubbleRegenSaid : Prop := bubbleRegenRow.holds Try.pinned (OpenSpec.ofChange bubbleRegenSpec)

/-- ITS FALSE NEIGHBOUR: 'it returns false'. Refute it at one input. -/
def bubbleRegenWrong : ChangeSpec := { name := "bubbleRegen", fn := fun _ => fun
  | [d1, d2] => { results := [.lit (.bool false)], args := [d1, d2] }
  | _ => none }
def BubbleRegenWrongFalsely : Prop := bubbleRegenRow.holds Try.pinned (OpenSpec.ofChange bubbleRegenWrong)

/- THE SECOND FORM. 'bulk': how many values and letters a reading holds, each counted each time it is reached (what is shared counts as often as it is met; a slice's spare places count too). A statement '..UptoSaid' is the law's where the arguments, and the package variables that the reading takes, are together of bulk at most 1048576: NARROWER than '..Said'. Prove '..Said' where nothing that the law and all that it calls make is longer than what came in: it says more and counts as full. Else prove '..UptoSaid'. A law counts once. -/
mutual
def uptoBulk {H : Type} : DataW H → Nat
  | .lit (.string bytes) => bytes.length + 1
  | .lit _ => 1
  | .nil => 1
  | .ptr d => uptoBulk d + 1
  | .slice elems spare => uptoBulkAll elems + uptoBulkAll spare + 1
  | .agg parts => uptoBulkAll parts + 1
  | .iface _ d => uptoBulk d + 1
  | .map entries => uptoBulkEntries entries + 1
  | .held _ => 1
def uptoBulkAll {H : Type} : List (DataW H) → Nat
  | [] => 0
  | d :: r => uptoBulk d + uptoBulkAll r
def uptoBulkEntries {H : Type} : List (Lit × DataW H) → Nat
  | [] => 0
  | x :: r => uptoBulkEntry x + uptoBulkEntries r
def uptoBulkEntry {H : Type} : Lit × DataW H → Nat
  | (.string bytes, d) => bytes.length + uptoBulk d + 1
  | (_, d) => uptoBulk d + 1
 end
def uptoSmall : (H : Type) → List (DataW H) → Bool := fun _ ds => decide (uptoBulkAll ds ≤ 1048576)
def OpenSpec.upto (s : _root_.Go.ChangeSpec) : _root_.Go.OpenSpec := { _root_.Go.OpenSpec.ofChange s with cond := some uptoSmall }

/-- 'pinfoldlaw13.BubbleMany', WHERE WHAT IT READS IS OF BULK AT MOST 1048576: true; the input reads as it did. -/
def bubbleManyUptoRow : OpenClaim := { program := "ytmbdhpibkhgkcaa", sum := "9237fe80ee34a40ad358b833b0c934ceb72c829e3193f887bdf7c0585b3d1f7b", func := "pinfold/pinfoldlaw13.BubbleMany", spec := "bubbleMany", unfollowed := true, recurses := true, apart := false, narrowed := true }
def BubbleManyUptoSaid : Prop := bubbleManyUptoRow.holds Try.pinned (OpenSpec.upto bubbleManySpec)

/-- 'pinfoldlaw13.BubblePlays', WHERE WHAT IT READS IS OF BULK AT MOST 1048576: true; the input reads as it did. -/
def bubblePlaysUptoRow : OpenClaim := { program := "ytmbdhpibkhgkcaa", sum := "9237fe80ee34a40ad358b833b0c934ceb72c829e3193f887bdf7c0585b3d1f7b", func := "pinfold/pinfoldlaw13.BubblePlays", spec := "bubblePlays", unfollowed := true, recurses := true, apart := false, narrowed := true }
def BubblePlaysUptoSaid : Prop := bubblePlaysUptoRow.holds Try.pinned (OpenSpec.upto bubblePlaysSpec)

/-- 'pinfoldlaw13.BubbleMasks', WHERE WHAT IT READS IS OF BULK AT MOST 1048576: true; the input reads as it did. -/
def bubbleMasksUptoRow : OpenClaim := { program := "ytmbdhpibkhgkcaa", sum := "9237fe80ee34a40ad358b833b0c934ceb72c829e3193f887bdf7c0585b3d1f7b", func := "pinfold/pinfoldlaw13.BubbleMasks", spec := "bubbleMasks", unfollowed := true, recurses := true, apart := false, narrowed := true }
def BubbleMasksUptoSaid : Prop := bubbleMasksUptoRow.holds Try.pinned (OpenSpec.upto bubbleMasksSpec)

/-- 'pinfoldlaw13.BubbleRegen', WHERE WHAT IT READS IS OF BULK AT MOST 1048576: true; the input reads as it did. -/
def bubbleRegenUptoRow : OpenClaim := { program := "ytmbdhpibkhgkcaa", sum := "9237fe80ee34a40ad358b833b0c934ceb72c829e3193f887bdf7c0585b3d1f7b", func := "pinfold/pinfoldlaw13.BubbleRegen", spec := "bubbleRegen", unfollowed := true, recurses := true, apart := false, narrowed := true }
def BubbleRegenUptoSaid : Prop := bubbleRegenUptoRow.holds Try.pinned (OpenSpec.upto bubbleRegenSpec)

end Rows
end Go.Proofs.Ytmbdhpibkhgkcaa
