/-
  No cell of these rows narrows 'for every input' (looked for: loops, veiled, ifaces, maps, wideKeys, modest, calm, conditions, laid).
  DERIVED. THE GIVEN ROWS OF THIS SEAT. 4 by the template 'for every input the law returns true; each argument reads behind the call as it read before'; 0 by the template 'total and deterministic' (their statements: YtkfpkgamjpdhaaaTotals.lean).
  GIVEN WITH THE SEED: the statements are not yours to turn. If you find one false, say at which input.
  Laid BY PROGRAM, IN A SANDBOX (cutbox-rows.mjs): the forced cells as the released guide's own fill.sh prints them over the translation a8a9e918ab834b35… (all of the seat's roots in one cut). By AI agents, Wed Nov 11 2026. No macro, syntax, notation, axiom, sorry.
-/
import Derived.Test.YtkfpkgamjpdhaaaChecked
import GoSem.Claim
import GoSem.ClaimJoined
import GoSem.ClaimMapViews
import Derived.JoinedTies
import Derived.KernelRfl
namespace Go.Proofs.Ytkfpkgamjpdhaaa
/- THE CELL 'sum', in the pinned program and in every row, IS THE sha256 OF THE DUMP (.gsa) THAT YtkfpkgamjpdhaaaProg.lean LOADS. Nothing in Lean hashes anything: it is a label: what it is worth is what the hold of that sum in a sandbox is worth. -/
noncomputable def Try.pinned : Pinned := { name := "ytkfpkgamjpdhaaa", sum := "a8a9e918ab834b3587a2913f736068ab2ea440aa7b90e96885f8c8d1ce85885a", checked := Try.checked }
namespace Rows
def none {H : Type} : Left H := { results := [], args := [] }

/-- 'tallboylaw22.AutoDoes': WHATEVER THE INPUT: true; the input reads as it did. -/
def autoDoesSpec : ChangeSpec := { name := "autoDoes", fn := fun _ => fun
  | [d1, d2, d3] => { results := [.lit (.bool true)], args := [d1, d2, d3] }
  | _ => none }
def autoDoesRow : OpenClaim := { program := "ytkfpkgamjpdhaaa", sum := "a8a9e918ab834b3587a2913f736068ab2ea440aa7b90e96885f8c8d1ce85885a", func := "tallboy/tallboylaw22.AutoDoes", spec := "autoDoes", apart := false }
def AutoDoesSaid : Prop := autoDoesRow.holds Try.pinned (OpenSpec.ofChange autoDoesSpec)

/-- ITS FALSE NEIGHBOUR: 'it returns false'. Refute it at one input. -/
def autoDoesWrong : ChangeSpec := { name := "autoDoes", fn := fun _ => fun
  | [d1, d2, d3] => { results := [.lit (.bool false)], args := [d1, d2, d3] }
  | _ => none }
def AutoDoesWrongFalsely : Prop := autoDoesRow.holds Try.pinned (OpenSpec.ofChange autoDoesWrong)

/-- 'tallboylaw22.AutoFair': WHATEVER THE INPUT: true; the input reads as it did. -/
def autoFairSpec : ChangeSpec := { name := "autoFair", fn := fun _ => fun
  | [d] => { results := [.lit (.bool true)], args := [d] }
  | _ => none }
def autoFairRow : OpenClaim := { program := "ytkfpkgamjpdhaaa", sum := "a8a9e918ab834b3587a2913f736068ab2ea440aa7b90e96885f8c8d1ce85885a", func := "tallboy/tallboylaw22.AutoFair", spec := "autoFair", apart := false }
def AutoFairSaid : Prop := autoFairRow.holds Try.pinned (OpenSpec.ofChange autoFairSpec)

/-- ITS FALSE NEIGHBOUR: 'it returns false'. Refute it at one input. -/
def autoFairWrong : ChangeSpec := { name := "autoFair", fn := fun _ => fun
  | [d] => { results := [.lit (.bool false)], args := [d] }
  | _ => none }
def AutoFairWrongFalsely : Prop := autoFairRow.holds Try.pinned (OpenSpec.ofChange autoFairWrong)

/-- 'tallboylaw22.AutoMost': WHATEVER THE INPUT: true; the input reads as it did. -/
def autoMostSpec : ChangeSpec := { name := "autoMost", fn := fun _ => fun
  | [d1, d2, d3, d4] => { results := [.lit (.bool true)], args := [d1, d2, d3, d4] }
  | _ => none }
def autoMostRow : OpenClaim := { program := "ytkfpkgamjpdhaaa", sum := "a8a9e918ab834b3587a2913f736068ab2ea440aa7b90e96885f8c8d1ce85885a", func := "tallboy/tallboylaw22.AutoMost", spec := "autoMost", apart := false }
def AutoMostSaid : Prop := autoMostRow.holds Try.pinned (OpenSpec.ofChange autoMostSpec)

/-- ITS FALSE NEIGHBOUR: 'it returns false'. Refute it at one input. -/
def autoMostWrong : ChangeSpec := { name := "autoMost", fn := fun _ => fun
  | [d1, d2, d3, d4] => { results := [.lit (.bool false)], args := [d1, d2, d3, d4] }
  | _ => none }
def AutoMostWrongFalsely : Prop := autoMostRow.holds Try.pinned (OpenSpec.ofChange autoMostWrong)

/-- 'tallboylaw22.AutoQuiet': WHATEVER THE INPUT: true; the input reads as it did. -/
def autoQuietSpec : ChangeSpec := { name := "autoQuiet", fn := fun _ => fun
  | [d1, d2, d3] => { results := [.lit (.bool true)], args := [d1, d2, d3] }
  | _ => none }
def autoQuietRow : OpenClaim := { program := "ytkfpkgamjpdhaaa", sum := "a8a9e918ab834b3587a2913f736068ab2ea440aa7b90e96885f8c8d1ce85885a", func := "tallboy/tallboylaw22.AutoQuiet", spec := "autoQuiet", apart := false }
def AutoQuietSaid : Prop := autoQuietRow.holds Try.pinned (OpenSpec.ofChange autoQuietSpec)

/-- ITS FALSE NEIGHBOUR: 'it returns false'. Refute it at one input. -/
def autoQuietWrong : ChangeSpec := { name := "autoQuiet", fn := fun _ => fun
  | [d1, d2, d3] => { results := [.lit (.bool false)], args := [d1, d2, d3] }
  | _ => none }
def AutoQuietWrongFalsely : Prop := autoQuietRow.holds Try.pinned (OpenSpec.ofChange autoQuietWrong)

/- THE SECOND FORM. 'bulk': how many values and letters a reading holds, each counted each time it is reached (what is shared counts as often as it is met; a slice's spare places count too). A statement '..UptoSaid' is the law's where the arguments, and the package variables that the reading takes, are together of bulk at most 1048576: NARROWER than '..Said'. Prove '..Said' where nothing that the law and all that it calls make is longer than what came in: it says more and counts as full. Else prove '..UptoSaid'. A law counts once. -/
mutual
def uptoBulk {H : Type} : DataW H → Nat
  | .lit (.string bytes) => bytes.length + 1
  | .lit _ => 1
  | .nil => 1
  | .ptr d => uptoBulk d + 1
  | .slice elems spare => uptoBulkAll elems + uptoBulkAll spare + 1
  | .agg parts => uptoBulkAll parts + 1
  | .iface _ d => uptoBulk d + 1
  | .map entries => uptoBulkEntries entries + 1
  | .held _ => 1
def uptoBulkAll {H : Type} : List (DataW H) → Nat
  | [] => 0
  | d :: r => uptoBulk d + uptoBulkAll r
def uptoBulkEntries {H : Type} : List (Lit × DataW H) → Nat
  | [] => 0
  | x :: r => uptoBulkEntry x + uptoBulkEntries r
def uptoBulkEntry {H : Type} : Lit × DataW H → Nat
  | (.string bytes, d) => bytes.length + uptoBulk d + 1
  | (_, d) => uptoBulk d + 1
 end
def uptoSmall : (H : Type) → List (DataW H) → Bool := fun _ ds => decide (uptoBulkAll ds ≤ 1048576)
def OpenSpec.upto (s : _root_.Go.ChangeSpec) : _root_.Go.OpenSpec := { _root_.Go.OpenSpec.ofChange s with cond := some uptoSmall }

/-- 'tallboylaw22.AutoDoes', WHERE WHAT IT READS IS OF BULK AT MOST 1048576: true; the input reads as it did. -/
def autoDoesUptoRow : OpenClaim := { program := "ytkfpkgamjpdhaaa", sum := "a8a9e918ab834b3587a2913f736068ab2ea440aa7b90e96885f8c8d1ce85885a", func := "tallboy/tallboylaw22.AutoDoes", spec := "autoDoes", apart := false, narrowed := true }
def AutoDoesUptoSaid : Prop := autoDoesUptoRow.holds Try.pinned (OpenSpec.upto autoDoesSpec)

/-- 'tallboylaw22.AutoFair', WHERE WHAT IT READS IS OF BULK AT MOST 1048576: true; the input reads as it did. -/
def autoFairUptoRow : OpenClaim := { program := "ytkfpkgamjpdhaaa", sum := "a8a9e918ab834b3587a2913f736068ab2ea440aa7b90e96885f8c8d1ce85885a", func := "tallboy/tallboylaw22.AutoFair", spec := "autoFair", apart := false, narrowed := true }
def AutoFairUptoSaid : Prop := autoFairUptoRow.holds Try.pinned (OpenSpec.upto autoFairSpec)

/-- 'tallboylaw22.AutoMost', WHERE WHAT IT READS IS OF BULK AT MOST 1048576: true; the input reads as it did. -/
def autoMostUptoRow : OpenClaim := { program := "ytkfpkgamjpdhaaa", sum := "a8a9e918ab834b3587a2913f736068ab2ea440aa7b90e96885f8c8d1ce85885a", func := "tallboy/tallboylaw22.AutoMost", spec := "autoMost", apart := false, narrowed := true }
def AutoMostUptoSaid : Prop := autoMostUptoRow.holds Try.pinned (OpenSpec.upto autoMostSpec)

/-- 'tallboylaw22.AutoQuiet', WHERE WHAT IT READS IS OF BULK AT MOST 1048576: true; the input reads as it did. -/
def autoQuietUptoRow : OpenClaim := { program := "ytkfpkgamjpdhaaa", sum := "a8a9e918ab834b3587a2913f736068ab2ea440aa7b90e96885f8c8d1ce85885a", func := "tallboy/tallboylaw22.AutoQuiet", spec := "autoQuiet", apart := false, narrowed := true }
def AutoQuietUptoSaid : Prop := autoQuietUptoRow.holds Try.pinned (OpenSpec.upto autoQuietSpec)

end Rows
end Go.Proofs.Ytkfpkgamjpdhaaa
