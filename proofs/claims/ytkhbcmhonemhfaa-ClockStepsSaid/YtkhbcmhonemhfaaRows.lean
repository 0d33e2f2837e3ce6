/-
  No cell of these rows narrows 'for every input' (looked for: loops, veiled, ifaces, maps, wideKeys, modest, calm, conditions, laid).
  DERIVED. THE GIVEN ROWS OF THIS SEAT. 6 by the template 'for every input the law returns true; each argument reads behind the call as it read before'; 0 by the template 'total and deterministic' (their statements: YtkhbcmhonemhfaaTotals.lean).
  GIVEN WITH THE SEED: the statements are not yours to turn. If you find one false, say at which input.
  Laid BY PROGRAM, IN A SANDBOX (cutbox-rows.mjs): the forced cells as the released guide's own fill.sh prints them over the translation dcf0844b3137c126… (all of the seat's roots in one cut). By AI agents, Wed Nov 11 2026. No macro, syntax, notation, axiom, sorry.
-/
import Derived.Test.YtkhbcmhonemhfaaChecked
import GoSem.Claim
import GoSem.ClaimJoined
import GoSem.ClaimMapViews
import Derived.JoinedTies
import Derived.KernelRfl
namespace Go.Proofs.Ytkhbcmhonemhfaa
/- THE CELL 'sum', in the pinned program and in every row, IS THE sha256 OF THE DUMP (.gsa) THAT YtkhbcmhonemhfaaProg.lean LOADS. Nothing in Lean hashes anything: it is a label: what it is worth is what the hold of that sum in a sandbox is worth. -/
noncomputable def Try.pinned : Pinned := { name := "ytkhbcmhonemhfaa", sum := "dcf0844b3137c12625fe975bbe9213bc96de598a78bd21f4f6e5421ff9e0fe4d", checked := Try.checked }
namespace Rows
def none {H : Type} : Left H := { results := [], args := [] }

/-- 'tallboylaw12.ClockEnds': WHATEVER THE INPUT: true; the input reads as it did. -/
def clockEndsSpec : ChangeSpec := { name := "clockEnds", fn := fun _ => fun
  | [d1, d2, d3] => { results := [.lit (.bool true)], args := [d1, d2, d3] }
  | _ => none }
def clockEndsRow : OpenClaim := { program := "ytkhbcmhonemhfaa", sum := "dcf0844b3137c12625fe975bbe9213bc96de598a78bd21f4f6e5421ff9e0fe4d", func := "tallboy/tallboylaw12.ClockEnds", spec := "clockEnds", apart := false }
def ClockEndsSaid : Prop := clockEndsRow.holds Try.pinned (OpenSpec.ofChange clockEndsSpec)

/-- ITS FALSE NEIGHBOUR: 'it returns false'. Refute it at one input. -/
def clockEndsWrong : ChangeSpec := { name := "clockEnds", fn := fun _ => fun
  | [d1, d2, d3] => { results := [.lit (.bool false)], args := [d1, d2, d3] }
  | _ => none }
def ClockEndsWrongFalsely : Prop := clockEndsRow.holds Try.pinned (OpenSpec.ofChange clockEndsWrong)

/-- 'tallboylaw12.ClockTicks': WHATEVER THE INPUT: true; the input reads as it did. -/
def clockTicksSpec : ChangeSpec := { name := "clockTicks", fn := fun _ => fun
  | [d1, d2] => { results := [.lit (.bool true)], args := [d1, d2] }
  | _ => none }
def clockTicksRow : OpenClaim := { program := "ytkhbcmhonemhfaa", sum := "dcf0844b3137c12625fe975bbe9213bc96de598a78bd21f4f6e5421ff9e0fe4d", func := "tallboy/tallboylaw12.ClockTicks", spec := "clockTicks", apart := false }
def ClockTicksSaid : Prop := clockTicksRow.holds Try.pinned (OpenSpec.ofChange clockTicksSpec)

/-- ITS FALSE NEIGHBOUR: 'it returns false'. Refute it at one input. -/
def clockTicksWrong : ChangeSpec := { name := "clockTicks", fn := fun _ => fun
  | [d1, d2] => { results := [.lit (.bool false)], args := [d1, d2] }
  | _ => none }
def ClockTicksWrongFalsely : Prop := clockTicksRow.holds Try.pinned (OpenSpec.ofChange clockTicksWrong)

/-- 'tallboylaw12.ClockKeeps': WHATEVER THE INPUT: true; the input reads as it did. -/
def clockKeepsSpec : ChangeSpec := { name := "clockKeeps", fn := fun _ => fun
  | [d1, d2, d3] => { results := [.lit (.bool true)], args := [d1, d2, d3] }
  | _ => none }
def clockKeepsRow : OpenClaim := { program := "ytkhbcmhonemhfaa", sum := "dcf0844b3137c12625fe975bbe9213bc96de598a78bd21f4f6e5421ff9e0fe4d", func := "tallboy/tallboylaw12.ClockKeeps", spec := "clockKeeps", apart := false }
def ClockKeepsSaid : Prop := clockKeepsRow.holds Try.pinned (OpenSpec.ofChange clockKeepsSpec)

/-- ITS FALSE NEIGHBOUR: 'it returns false'. Refute it at one input. -/
def clockKeepsWrong : ChangeSpec := { name := "clockKeeps", fn := fun _ => fun
  | [d1, d2, d3] => { results := [.lit (.bool false)], args := [d1, d2, d3] }
  | _ => none }
def ClockKeepsWrongFalsely : Prop := clockKeepsRow.holds Try.pinned (OpenSpec.ofChange clockKeepsWrong)

/-- 'tallboylaw12.ClockNever': WHATEVER THE INPUT: true; the input reads as it did. -/
def clockNeverSpec : ChangeSpec := { name := "clockNever", fn := fun _ => fun
  | [d1, d2, d3] => { results := [.lit (.bool true)], args := [d1, d2, d3] }
  | _ => none }
def clockNeverRow : OpenClaim := { program := "ytkhbcmhonemhfaa", sum := "dcf0844b3137c12625fe975bbe9213bc96de598a78bd21f4f6e5421ff9e0fe4d", func := "tallboy/tallboylaw12.ClockNever", spec := "clockNever", apart := false }
def ClockNeverSaid : Prop := clockNeverRow.holds Try.pinned (OpenSpec.ofChange clockNeverSpec)

/-- ITS FALSE NEIGHBOUR: 'it returns false'. Refute it at one input. -/
def clockNeverWrong : ChangeSpec := { name := "clockNever", fn := fun _ => fun
  | [d1, d2, d3] => { results := [.lit (.bool false)], args := [d1, d2, d3] }
  | _ => none }
def ClockNeverWrongFalsely : Prop := clockNeverRow.holds Try.pinned (OpenSpec.ofChange clockNeverWrong)

/-- 'tallboylaw12.ClockMonth': WHATEVER THE INPUT: true; the input reads as it did. -/
def clockMonthSpec : ChangeSpec := { name := "clockMonth", fn := fun _ => fun
  | [d1, d2] => { results := [.lit (.bool true)], args := [d1, d2] }
  | _ => none }
def clockMonthRow : OpenClaim := { program := "ytkhbcmhonemhfaa", sum := "dcf0844b3137c12625fe975bbe9213bc96de598a78bd21f4f6e5421ff9e0fe4d", func := "tallboy/tallboylaw12.ClockMonth", spec := "clockMonth", apart := false }
def ClockMonthSaid : Prop := clockMonthRow.holds Try.pinned (OpenSpec.ofChange clockMonthSpec)

/-- ITS FALSE NEIGHBOUR: 'it returns false'. Refute it at one input. -/
def clockMonthWrong : ChangeSpec := { name := "clockMonth", fn := fun _ => fun
  | [d1, d2] => { results := [.lit (.bool false)], args := [d1, d2] }
  | _ => none }
def ClockMonthWrongFalsely : Prop := clockMonthRow.holds Try.pinned (OpenSpec.ofChange clockMonthWrong)

/-- 'tallboylaw12.ClockSteps': WHATEVER THE INPUT: true; the input reads as it did. -/
def clockStepsSpec : ChangeSpec := { name := "clockSteps", fn := fun _ => fun
  | [d1, d2] => { results := [.lit (.bool true)], args := [d1, d2] }
  | _ => none }
def clockStepsRow : OpenClaim := { program := "ytkhbcmhonemhfaa", sum := "dcf0844b3137c12625fe975bbe9213bc96de598a78bd21f4f6e5421ff9e0fe4d", func := "tallboy/tallboylaw12.ClockSteps", spec := "clockSteps", apart := false }
def ClockStepsSaid : Prop := clockStepsRow.holds Try.pinned (OpenSpec.ofChange clockStepsSpec)

/-- ITS FALSE NEIGHBOUR: 'it returns false'. Refute it at one input. -/
def clockStepsWrong : ChangeSpec := { name := "clockSteps", fn := fun _ => fun
  | [d1, d2] => { results := [.lit (.bool false)], args := [d1, d2] }
  | _ => none }
def ClockStepsWrongFalsely : Prop := clockStepsRow.holds Try.pinned (OpenSpec.ofChange clockStepsWrong)

/- THE SECOND FORM. 'bulk': how many values and letters a reading holds, each counted each time it is reached (what is shared counts as often as it is met; a slice's spare places count too). A statement '..UptoSaid' is the law's where the arguments, and the package variables that the reading takes, are together of bulk at most 1048576: NARROWER than '..Said'. Prove '..Said' where nothing that the law and all that it calls make is longer than what came in: it says more and counts as full. Else prove '..UptoSaid'. A law counts once. -/
mutual
def uptoBulk {H : Type} : DataW H → Nat
  | .lit (.string bytes) => bytes.length + 1
  | .lit _ => 1
  | .nil => 1
  | .ptr d => uptoBulk d + 1
  | .slice elems spare => uptoBulkAll elems + uptoBulkAll spare + 1
  | .agg parts => uptoBulkAll parts + 1
  | .iface _ d => uptoBulk d + 1
  | .map entries => uptoBulkEntries entries + 1
  | .held _ => 1
def uptoBulkAll {H : Type} : List (DataW H) → Nat
  | [] => 0
  | d :: r => uptoBulk d + uptoBulkAll r
def uptoBulkEntries {H : Type} : List (Lit × DataW H) → Nat
  | [] => 0
  | x :: r => uptoBulkEntry x + uptoBulkEntries r
def uptoBulkEntry {H : Type} : Lit × DataW H → Nat
  | (.string bytes, d) => bytes.length + uptoBulk d + 1
  | (_, d) => uptoBulk d + 1
 end
def uptoSmall : (H : Type) → List (DataW H) → Bool := fun _ ds => decide (uptoBulkAll ds ≤ 1048576)
def OpenSpec.upto (s : _root_.Go.ChangeSpec) : _root_.Go.OpenSpec := { _root_.Go.OpenSpec.ofChange s with cond := some uptoSmall }

/-- 'tallboylaw12.ClockEnds', WHERE WHAT IT READS IS OF BULK AT MOST 1048576: true; the input reads as it did. -/
def clockEndsUptoRow : OpenClaim := { program := "ytkhbcmhonemhfaa", sum := "dcf0844b3137c12625fe975bbe9213bc96de598a78bd21f4f6e5421ff9e0fe4d", func := "tallboy/tallboylaw12.ClockEnds", spec := "clockEnds", apart := false, narrowed := true }
def ClockEndsUptoSaid : Prop := clockEndsUptoRow.holds Try.pinned (OpenSpec.upto clockEndsSpec)

/-- 'tallboylaw12.ClockTicks', WHERE WHAT IT READS IS OF BULK AT MOST 1048576: true; the input reads as it did. -/
def clockTicksUptoRow : OpenClaim := { program := "ytkhbcmhonemhfaa", sum := "dcf0844b3137c12625fe975bbe9213bc96de598a78bd21f4f6e5421ff9e0fe4d", func := "tallboy/tallboylaw12.ClockTicks", spec := "clockTicks", apart := false, narrowed := true }
def ClockTicksUptoSaid : Prop := clockTicksUptoRow.holds Try.pinned (OpenSpec.upto clockTicksSpec)

/-- 'tallboylaw12.ClockKeeps', WHERE WHAT IT READS IS OF BULK AT MOST 1048576: true; the input reads as it did. -/
def clockKeepsUptoRow : OpenClaim := { program := "ytkhbcmhonemhfaa", sum := "dcf0844b3137c12625fe975bbe9213bc96de598a78bd21f4f6e5421ff9e0fe4d", func := "tallboy/tallboylaw12.ClockKeeps", spec := "clockKeeps", apart := false, narrowed := true }
def ClockKeepsUptoSaid : Prop := clockKeepsUptoRow.holds Try.pinned (OpenSpec.upto clockKeepsSpec)

/-- 'tallboylaw12.ClockNever', WHERE WHAT IT READS IS OF BULK AT MOST 1048576: true; the input reads as it did. -/
def clockNeverUptoRow : OpenClaim := { program := "ytkhbcmhonemhfaa", sum := "dcf0844b3137c12625fe975bbe9213bc96de598a78bd21f4f6e5421ff9e0fe4d", func := "tallboy/tallboylaw12.ClockNever", spec := "clockNever", apart := false, narrowed := true }
def ClockNeverUptoSaid : Prop := clockNeverUptoRow.holds Try.pinned (OpenSpec.upto clockNeverSpec)

/-- 'tallboylaw12.ClockMonth', WHERE WHAT IT READS IS OF BULK AT MOST 1048576: true; the input reads as it did. -/
def clockMonthUptoRow : OpenClaim := { program := "ytkhbcmhonemhfaa", sum := "dcf0844b3137c12625fe975bbe9213bc96de598a78bd21f4f6e5421ff9e0fe4d", func := "tallboy/tallboylaw12.ClockMonth", spec := "clockMonth", apart := false, narrowed := true }
def ClockMonthUptoSaid : Prop := clockMonthUptoRow.holds Try.pinned (OpenSpec.upto clockMonthSpec)

/-- 'tallboylaw12.ClockSteps', WHERE WHAT IT READS IS OF BULK AT MOST 1048576: true; the input reads as it did. -/
def clockStepsUptoRow : OpenClaim := { program := "ytkhbcmhonemhfaa", sum := "dcf0844b3137c12625fe975bbe9213bc96de598a78bd21f4f6e5421ff9e0fe4d", func := "tallboy/tallboylaw12.ClockSteps", spec := "clockSteps", apart := false, narrowed := true }
def ClockStepsUptoSaid : Prop := clockStepsUptoRow.holds Try.pinned (OpenSpec.upto clockStepsSpec)

end Rows
end Go.Proofs.Ytkhbcmhonemhfaa
