/-
  No cell of these rows narrows 'for every input' (looked for: loops, veiled, ifaces, maps, wideKeys, modest, calm, conditions, laid).
  DERIVED. THE GIVEN ROWS OF THIS SEAT. 3 by the template 'for every input the law returns true; each argument reads behind the call as it read before'; 0 by the template 'total and deterministic' (their statements: YtpemlpahpbpbeaaTotals.lean).
  GIVEN WITH THE SEED: the statements are not yours to turn. If you find one false, say at which input.
  Laid BY PROGRAM, IN A SANDBOX (cutbox-rows.mjs): the forced cells as the released guide's own fill.sh prints them over the translation 0ede16401350e4a8… (all of the seat's roots in one cut). By AI agents, Wed Nov 11 2026. No macro, syntax, notation, axiom, sorry.
-/
import Derived.Test.YtpemlpahpbpbeaaChecked
import GoSem.Claim
import GoSem.ClaimJoined
import GoSem.ClaimMapViews
import Derived.JoinedTies
import Derived.KernelRfl
namespace Go.Proofs.Ytpemlpahpbpbeaa
/- THE CELL 'sum', in the pinned program and in every row, IS THE sha256 OF THE DUMP (.gsa) THAT YtpemlpahpbpbeaaProg.lean LOADS. Nothing in Lean hashes anything: it is a label: what it is worth is what the hold of that sum in a sandbox is worth. -/
noncomputable def Try.pinned : Pinned := { name := "ytpemlpahpbpbeaa", sum := "0ede16401350e4a80b74c9e9cb8f4b7b2bc1bafa3212d9a16910dec9635be5e9", checked := Try.checked }
namespace Rows
def none {H : Type} : Left H := { results := [], args := [] }

/-- 'tallboylaw23.LocksDoes': WHATEVER THE INPUT: true; the input reads as it did. -/
def locksDoesSpec : ChangeSpec := { name := "locksDoes", fn := fun _ => fun
  | [d] => { results := [.lit (.bool true)], args := [d] }
  | _ => none }
def locksDoesRow : OpenClaim := { program := "ytpemlpahpbpbeaa", sum := "0ede16401350e4a80b74c9e9cb8f4b7b2bc1bafa3212d9a16910dec9635be5e9", func := "tallboy/tallboylaw23.LocksDoes", spec := "locksDoes", apart := false }
def LocksDoesSaid : Prop := locksDoesRow.holds Try.pinned (OpenSpec.ofChange locksDoesSpec)

/-- ITS FALSE NEIGHBOUR: 'it returns false'. Refute it at one input. -/
def locksDoesWrong : ChangeSpec := { name := "locksDoes", fn := fun _ => fun
  | [d] => { results := [.lit (.bool false)], args := [d] }
  | _ => none }
def LocksDoesWrongFalsely : Prop := locksDoesRow.holds Try.pinned (OpenSpec.ofChange locksDoesWrong)

/-- 'tallboylaw23.LocksRing': WHATEVER THE INPUT: true; the input reads as it did. -/
def locksRingSpec : ChangeSpec := { name := "locksRing", fn := fun _ => fun
  | [d] => { results := [.lit (.bool true)], args := [d] }
  | _ => none }
def locksRingRow : OpenClaim := { program := "ytpemlpahpbpbeaa", sum := "0ede16401350e4a80b74c9e9cb8f4b7b2bc1bafa3212d9a16910dec9635be5e9", func := "tallboy/tallboylaw23.LocksRing", spec := "locksRing", apart := false }
def LocksRingSaid : Prop := locksRingRow.holds Try.pinned (OpenSpec.ofChange locksRingSpec)

/-- ITS FALSE NEIGHBOUR: 'it returns false'. Refute it at one input. -/
def locksRingWrong : ChangeSpec := { name := "locksRing", fn := fun _ => fun
  | [d] => { results := [.lit (.bool false)], args := [d] }
  | _ => none }
def LocksRingWrongFalsely : Prop := locksRingRow.holds Try.pinned (OpenSpec.ofChange locksRingWrong)

/-- 'tallboylaw23.LocksTurns': WHATEVER THE INPUT: true; the input reads as it did. -/
def locksTurnsSpec : ChangeSpec := { name := "locksTurns", fn := fun _ => fun
  | [d1, d2, d3] => { results := [.lit (.bool true)], args := [d1, d2, d3] }
  | _ => none }
def locksTurnsRow : OpenClaim := { program := "ytpemlpahpbpbeaa", sum := "0ede16401350e4a80b74c9e9cb8f4b7b2bc1bafa3212d9a16910dec9635be5e9", func := "tallboy/tallboylaw23.LocksTurns", spec := "locksTurns", apart := false }
def LocksTurnsSaid : Prop := locksTurnsRow.holds Try.pinned (OpenSpec.ofChange locksTurnsSpec)

/-- ITS FALSE NEIGHBOUR: 'it returns false'. Refute it at one input. -/
def locksTurnsWrong : ChangeSpec := { name := "locksTurns", fn := fun _ => fun
  | [d1, d2, d3] => { results := [.lit (.bool false)], args := [d1, d2, d3] }
  | _ => none }
def LocksTurnsWrongFalsely : Prop := locksTurnsRow.holds Try.pinned (OpenSpec.ofChange locksTurnsWrong)

/- THE SECOND FORM. 'bulk': how many values and letters a reading holds, each counted each time it is reached (what is shared counts as often as it is met; a slice's spare places count too). A statement '..UptoSaid' is the law's where the arguments, and the package variables that the reading takes, are together of bulk at most 1048576: NARROWER than '..Said'. Prove '..Said' where nothing that the law and all that it calls make is longer than what came in: it says more and counts as full. Else prove '..UptoSaid'. A law counts once. -/
mutual
def uptoBulk {H : Type} : DataW H → Nat
  | .lit (.string bytes) => bytes.length + 1
  | .lit _ => 1
  | .nil => 1
  | .ptr d => uptoBulk d + 1
  | .slice elems spare => uptoBulkAll elems + uptoBulkAll spare + 1
  | .agg parts => uptoBulkAll parts + 1
  | .iface _ d => uptoBulk d + 1
  | .map entries => uptoBulkEntries entries + 1
  | .held _ => 1
def uptoBulkAll {H : Type} : List (DataW H) → Nat
  | [] => 0
  | d :: r => uptoBulk d + uptoBulkAll r
def uptoBulkEntries {H : Type} : List (Lit × DataW H) → Nat
  | [] => 0
  | x :: r => uptoBulkEntry x + uptoBulkEntries r
def uptoBulkEntry {H : Type} : Lit × DataW H → Nat
  | (.string bytes, d) => bytes.length + uptoBulk d + 1
  | (_, d) => uptoBulk d + 1
 end
def uptoSmall : (H : Type) → List (DataW H) → Bool := fun _ ds => decide (uptoBulkAll ds ≤ 1048576)
def OpenSpec.upto (s : _root_.Go.ChangeSpec) : _root_.Go.OpenSpec := { _root_.Go.OpenSpec.ofChange s with cond := some uptoSmall }

/-- 'tallboylaw23.LocksDoes', WHERE WHAT IT READS IS OF BULK AT MOST 1048576: true; the input reads as it did. -/
def locksDoesUptoRow : OpenClaim := { program := "ytpemlpahpbpbeaa", sum := "0ede16401350e4a80b74c9e9cb8f4b7b2bc1bafa3212d9a16910dec9635be5e9", func := "tallboy/tallboylaw23.LocksDoes", spec := "locksDoes", apart := false, narrowed := true }
def LocksDoesUptoSaid : Prop := locksDoesUptoRow.holds Try.pinned (OpenSpec.upto locksDoesSpec)

/-- 'tallboylaw23.LocksRing', WHERE WHAT IT READS IS OF BULK AT MOST 1048576: true; the input reads as it did. -/
def locksRingUptoRow : OpenClaim := { program := "ytpemlpahpbpbeaa", sum := "0ede16401350e4a80b74c9e9cb8f4b7b2bc1bafa3212d9a16910dec9635be5e9", func := "tallboy/tallboylaw23.LocksRing", spec := "locksRing", apart := false, narrowed := true }
def LocksRingUptoSaid : Prop := locksRingUptoRow.holds Try.pinned (OpenSpec.upto locksRingSpec)

/-- 'tallboylaw23.LocksTurns', WHERE WHAT IT READS IS OF BULK AT MOST 1048576: true; the input reads as it did. -/
def locksTurnsUptoRow : OpenClaim := { program := "ytpemlpahpbpbeaa", sum := "0ede16401350e4a80b74c9e9cb8f4b7b2bc1bafa3212d9a16910dec9635be5e9", func := "tallboy/tallboylaw23.LocksTurns", spec := "locksTurns", apart := false, narrowed := true }
def LocksTurnsUptoSaid : Prop := locksTurnsUptoRow.holds Try.pinned (OpenSpec.upto locksTurnsSpec)

end Rows
end Go.Proofs.Ytpemlpahpbpbeaa
