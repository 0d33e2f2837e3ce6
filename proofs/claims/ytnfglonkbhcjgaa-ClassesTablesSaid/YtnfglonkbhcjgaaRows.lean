/-
  No cell of these rows narrows 'for every input' (looked for: loops, veiled, ifaces, maps, wideKeys, modest, calm, conditions, laid).
  DERIVED. THE GIVEN ROWS OF THIS SEAT. 7 by the template 'for every input the law returns true; each argument reads behind the call as it read before'; 0 by the template 'total and deterministic' (their statements: YtnfglonkbhcjgaaTotals.lean).
  GIVEN WITH THE SEED: the statements are not yours to turn. If you find one false, say at which input.
  Laid BY PROGRAM, IN A SANDBOX (cutbox-rows.mjs): the forced cells as the released guide's own fill.sh prints them over the translation 1f425a7a64181b1d… (all of the seat's roots in one cut). By AI agents, Wed Nov 11 2026. No macro, syntax, notation, axiom, sorry.
-/
import Derived.Test.YtnfglonkbhcjgaaChecked
import GoSem.Claim
import GoSem.ClaimJoined
import GoSem.ClaimMapViews
import Derived.JoinedTies
import Derived.KernelRfl
namespace Go.Proofs.Ytnfglonkbhcjgaa
/- THE CELL 'sum', in the pinned program and in every row, IS THE sha256 OF THE DUMP (.gsa) THAT YtnfglonkbhcjgaaProg.lean LOADS. Nothing in Lean hashes anything: it is a label: what it is worth is what the hold of that sum in a sandbox is worth. -/
noncomputable def Try.pinned : Pinned := { name := "ytnfglonkbhcjgaa", sum := "1f425a7a64181b1dac8a40cd17d53b204594794b8b488b47dd5984012abbfdcf", checked := Try.checked }
namespace Rows
def none {H : Type} : Left H := { results := [], args := [] }

/-- 'tallboylaw06.ClassesTables': WHATEVER THE INPUT: true; the input reads as it did. -/
def classesTablesSpec : ChangeSpec := { name := "classesTables", fn := fun _ => fun
  | [d1, d2] => { results := [.lit (.bool true)], args := [d1, d2] }
  | _ => none }
def classesTablesRow : OpenClaim := { program := "ytnfglonkbhcjgaa", sum := "1f425a7a64181b1dac8a40cd17d53b204594794b8b488b47dd5984012abbfdcf", func := "tallboy/tallboylaw06.ClassesTables", spec := "classesTables", apart := false }
def ClassesTablesSaid : Prop := classesTablesRow.holds Try.pinned (OpenSpec.ofChange classesTablesSpec)

/-- ITS FALSE NEIGHBOUR: 'it returns false'. Refute it at one input. -/
def classesTablesWrong : ChangeSpec := { name := "classesTables", fn := fun _ => fun
  | [d1, d2] => { results := [.lit (.bool false)], args := [d1, d2] }
  | _ => none }
def ClassesTablesWrongFalsely : Prop := classesTablesRow.holds Try.pinned (OpenSpec.ofChange classesTablesWrong)

/-- 'tallboylaw06.ClassesFor': WHATEVER THE INPUT: true; the input reads as it did. -/
def classesForSpec : ChangeSpec := { name := "classesFor", fn := fun _ => fun
  | [d1, d2] => { results := [.lit (.bool true)], args := [d1, d2] }
  | _ => none }
def classesForRow : OpenClaim := { program := "ytnfglonkbhcjgaa", sum := "1f425a7a64181b1dac8a40cd17d53b204594794b8b488b47dd5984012abbfdcf", func := "tallboy/tallboylaw06.ClassesFor", spec := "classesFor", apart := false }
def ClassesForSaid : Prop := classesForRow.holds Try.pinned (OpenSpec.ofChange classesForSpec)

/-- ITS FALSE NEIGHBOUR: 'it returns false'. Refute it at one input. -/
def classesForWrong : ChangeSpec := { name := "classesFor", fn := fun _ => fun
  | [d1, d2] => { results := [.lit (.bool false)], args := [d1, d2] }
  | _ => none }
def ClassesForWrongFalsely : Prop := classesForRow.holds Try.pinned (OpenSpec.ofChange classesForWrong)

/-- 'tallboylaw06.ClassesRise': WHATEVER THE INPUT: true; the input reads as it did. -/
def classesRiseSpec : ChangeSpec := { name := "classesRise", fn := fun _ => fun
  | [d1, d2] => { results := [.lit (.bool true)], args := [d1, d2] }
  | _ => none }
def classesRiseRow : OpenClaim := { program := "ytnfglonkbhcjgaa", sum := "1f425a7a64181b1dac8a40cd17d53b204594794b8b488b47dd5984012abbfdcf", func := "tallboy/tallboylaw06.ClassesRise", spec := "classesRise", apart := false }
def ClassesRiseSaid : Prop := classesRiseRow.holds Try.pinned (OpenSpec.ofChange classesRiseSpec)

/-- ITS FALSE NEIGHBOUR: 'it returns false'. Refute it at one input. -/
def classesRiseWrong : ChangeSpec := { name := "classesRise", fn := fun _ => fun
  | [d1, d2] => { results := [.lit (.bool false)], args := [d1, d2] }
  | _ => none }
def ClassesRiseWrongFalsely : Prop := classesRiseRow.holds Try.pinned (OpenSpec.ofChange classesRiseWrong)

/-- 'tallboylaw06.ClassesLeast': WHATEVER THE INPUT: true; the input reads as it did. -/
def classesLeastSpec : ChangeSpec := { name := "classesLeast", fn := fun _ => fun
  | [d1, d2, d3] => { results := [.lit (.bool true)], args := [d1, d2, d3] }
  | _ => none }
def classesLeastRow : OpenClaim := { program := "ytnfglonkbhcjgaa", sum := "1f425a7a64181b1dac8a40cd17d53b204594794b8b488b47dd5984012abbfdcf", func := "tallboy/tallboylaw06.ClassesLeast", spec := "classesLeast", apart := false }
def ClassesLeastSaid : Prop := classesLeastRow.holds Try.pinned (OpenSpec.ofChange classesLeastSpec)

/-- ITS FALSE NEIGHBOUR: 'it returns false'. Refute it at one input. -/
def classesLeastWrong : ChangeSpec := { name := "classesLeast", fn := fun _ => fun
  | [d1, d2, d3] => { results := [.lit (.bool false)], args := [d1, d2, d3] }
  | _ => none }
def ClassesLeastWrongFalsely : Prop := classesLeastRow.holds Try.pinned (OpenSpec.ofChange classesLeastWrong)

/-- 'tallboylaw06.ClassesWhole': WHATEVER THE INPUT: true; the input reads as it did. -/
def classesWholeSpec : ChangeSpec := { name := "classesWhole", fn := fun _ => fun
  | [d] => { results := [.lit (.bool true)], args := [d] }
  | _ => none }
def classesWholeRow : OpenClaim := { program := "ytnfglonkbhcjgaa", sum := "1f425a7a64181b1dac8a40cd17d53b204594794b8b488b47dd5984012abbfdcf", func := "tallboy/tallboylaw06.ClassesWhole", spec := "classesWhole", apart := false }
def ClassesWholeSaid : Prop := classesWholeRow.holds Try.pinned (OpenSpec.ofChange classesWholeSpec)

/-- ITS FALSE NEIGHBOUR: 'it returns false'. Refute it at one input. -/
def classesWholeWrong : ChangeSpec := { name := "classesWhole", fn := fun _ => fun
  | [d] => { results := [.lit (.bool false)], args := [d] }
  | _ => none }
def ClassesWholeWrongFalsely : Prop := classesWholeRow.holds Try.pinned (OpenSpec.ofChange classesWholeWrong)

/-- 'tallboylaw06.ClassesFactor': WHATEVER THE INPUT: true; the input reads as it did. -/
def classesFactorSpec : ChangeSpec := { name := "classesFactor", fn := fun _ => fun
  | [d1, d2] => { results := [.lit (.bool true)], args := [d1, d2] }
  | _ => none }
def classesFactorRow : OpenClaim := { program := "ytnfglonkbhcjgaa", sum := "1f425a7a64181b1dac8a40cd17d53b204594794b8b488b47dd5984012abbfdcf", func := "tallboy/tallboylaw06.ClassesFactor", spec := "classesFactor", apart := false }
def ClassesFactorSaid : Prop := classesFactorRow.holds Try.pinned (OpenSpec.ofChange classesFactorSpec)

/-- ITS FALSE NEIGHBOUR: 'it returns false'. Refute it at one input. -/
def classesFactorWrong : ChangeSpec := { name := "classesFactor", fn := fun _ => fun
  | [d1, d2] => { results := [.lit (.bool false)], args := [d1, d2] }
  | _ => none }
def ClassesFactorWrongFalsely : Prop := classesFactorRow.holds Try.pinned (OpenSpec.ofChange classesFactorWrong)

/-- 'tallboylaw06.ClassesSame': WHATEVER THE INPUT: true; the input reads as it did. -/
def classesSameSpec : ChangeSpec := { name := "classesSame", fn := fun _ => fun
  | [d1, d2, d3] => { results := [.lit (.bool true)], args := [d1, d2, d3] }
  | _ => none }
def classesSameRow : OpenClaim := { program := "ytnfglonkbhcjgaa", sum := "1f425a7a64181b1dac8a40cd17d53b204594794b8b488b47dd5984012abbfdcf", func := "tallboy/tallboylaw06.ClassesSame", spec := "classesSame", apart := false }
def ClassesSameSaid : Prop := classesSameRow.holds Try.pinned (OpenSpec.ofChange classesSameSpec)

/-- ITS FALSE NEIGHBOUR: 'it returns false'. Refute it at one input. -/
def classesSameWrong : ChangeSpec := { name := "classesSame", fn := fun _ => fun
  | [d1, d2, d3] => { results := [.lit (.bool false)], args := [d1, d2, d3] }
  | _ => none }
def ClassesSameWrongFalsely : Prop := classesSameRow.holds Try.pinned (OpenSpec.ofChange classesSameWrong)

/- THE SECOND FORM. 'bulk': how many values and letters a reading holds, each counted each time it is reached (what is shared counts as often as it is met; a slice's spare places count too). A statement '..UptoSaid' is the law's where the arguments, and the package variables that the reading takes, are together of bulk at most 1048576: NARROWER than '..Said'. Prove '..Said' where nothing that the law and all that it calls make is longer than what came in: it says more and counts as full. Else prove '..UptoSaid'. A law counts once. -/
mutual
def uptoBulk {H : Type} : DataW H → Nat
  | .lit (.string bytes) => bytes.length + 1
  | .lit _ => 1
  | .nil => 1
  | .ptr d => uptoBulk d + 1
  | .slice elems spare => uptoBulkAll elems + uptoBulkAll spare + 1
  | .agg parts => uptoBulkAll parts + 1
  | .iface _ d => uptoBulk d + 1
  | .map entries => uptoBulkEntries entries + 1
  | .held _ => 1
def uptoBulkAll {H : Type} : List (DataW H) → Nat
  | [] => 0
  | d :: r => uptoBulk d + uptoBulkAll r
def uptoBulkEntries {H : Type} : List (Lit × DataW H) → Nat
  | [] => 0
  | x :: r => uptoBulkEntry x + uptoBulkEntries r
def uptoBulkEntry {H : Type} : Lit × DataW H → Nat
  | (.string bytes, d) => bytes.length + uptoBulk d + 1
  | (_, d) => uptoBulk d + 1
 end
def uptoSmall : (H : Type) → List (DataW H) → Bool := fun _ ds => decide (uptoBulkAll ds ≤ 1048576)
def OpenSpec.upto (s : _root_.Go.ChangeSpec) : _root_.Go.OpenSpec := { _root_.Go.OpenSpec.ofChange s with cond := some uptoSmall }

/-- 'tallboylaw06.ClassesTables', WHERE WHAT IT READS IS OF BULK AT MOST 1048576: true; the input reads as it did. -/
def classesTablesUptoRow : OpenClaim := { program := "ytnfglonkbhcjgaa", sum := "1f425a7a64181b1dac8a40cd17d53b204594794b8b488b47dd5984012abbfdcf", func := "tallboy/tallboylaw06.ClassesTables", spec := "classesTables", apart := false, narrowed := true }
def ClassesTablesUptoSaid : Prop := classesTablesUptoRow.holds Try.pinned (OpenSpec.upto classesTablesSpec)

/-- 'tallboylaw06.ClassesFor', WHERE WHAT IT READS IS OF BULK AT MOST 1048576: true; the input reads as it did. -/
def classesForUptoRow : OpenClaim := { program := "ytnfglonkbhcjgaa", sum := "1f425a7a64181b1dac8a40cd17d53b204594794b8b488b47dd5984012abbfdcf", func := "tallboy/tallboylaw06.ClassesFor", spec := "classesFor", apart := false, narrowed := true }
def ClassesForUptoSaid : Prop := classesForUptoRow.holds Try.pinned (OpenSpec.upto classesForSpec)

/-- 'tallboylaw06.ClassesRise', WHERE WHAT IT READS IS OF BULK AT MOST 1048576: true; the input reads as it did. -/
def classesRiseUptoRow : OpenClaim := { program := "ytnfglonkbhcjgaa", sum := "1f425a7a64181b1dac8a40cd17d53b204594794b8b488b47dd5984012abbfdcf", func := "tallboy/tallboylaw06.ClassesRise", spec := "classesRise", apart := false, narrowed := true }
def ClassesRiseUptoSaid : Prop := classesRiseUptoRow.holds Try.pinned (OpenSpec.upto classesRiseSpec)

/-- 'tallboylaw06.ClassesLeast', WHERE WHAT IT READS IS OF BULK AT MOST 1048576: true; the input reads as it did. -/
def classesLeastUptoRow : OpenClaim := { program := "ytnfglonkbhcjgaa", sum := "1f425a7a64181b1dac8a40cd17d53b204594794b8b488b47dd5984012abbfdcf", func := "tallboy/tallboylaw06.ClassesLeast", spec := "classesLeast", apart := false, narrowed := true }
def ClassesLeastUptoSaid : Prop := classesLeastUptoRow.holds Try.pinned (OpenSpec.upto classesLeastSpec)

/-- 'tallboylaw06.ClassesWhole', WHERE WHAT IT READS IS OF BULK AT MOST 1048576: true; the input reads as it did. -/
def classesWholeUptoRow : OpenClaim := { program := "ytnfglonkbhcjgaa", sum := "1f425a7a64181b1dac8a40cd17d53b204594794b8b488b47dd5984012abbfdcf", func := "tallboy/tallboylaw06.ClassesWhole", spec := "classesWhole", apart := false, narrowed := true }
def ClassesWholeUptoSaid : Prop := classesWholeUptoRow.holds Try.pinned (OpenSpec.upto classesWholeSpec)

/-- 'tallboylaw06.ClassesFactor', WHERE WHAT IT READS IS OF BULK AT MOST 1048576: true; the input reads as it did. -/
def classesFactorUptoRow : OpenClaim := { program := "ytnfglonkbhcjgaa", sum := "1f425a7a64181b1dac8a40cd17d53b204594794b8b488b47dd5984012abbfdcf", func := "tallboy/tallboylaw06.ClassesFactor", spec := "classesFactor", apart := false, narrowed := true }
def ClassesFactorUptoSaid : Prop := classesFactorUptoRow.holds Try.pinned (OpenSpec.upto classesFactorSpec)

/-- 'tallboylaw06.ClassesSame', WHERE WHAT IT READS IS OF BULK AT MOST 1048576: true; the input reads as it did. -/
def classesSameUptoRow : OpenClaim := { program := "ytnfglonkbhcjgaa", sum := "1f425a7a64181b1dac8a40cd17d53b204594794b8b488b47dd5984012abbfdcf", func := "tallboy/tallboylaw06.ClassesSame", spec := "classesSame", apart := false, narrowed := true }
def ClassesSameUptoSaid : Prop := classesSameUptoRow.holds Try.pinned (OpenSpec.upto classesSameSpec)

end Rows
end Go.Proofs.Ytnfglonkbhcjgaa
