/- A slice of turns that came in: what a walk may read of it. -/
import Derived.Test.YtkfpkgamjpdhaaaRows
import Derived.Test.YtkfpkgamjpdhaaaDoes
import Derived.ProofKit
import Derived.OpenShut
import Derived.ShutString
import Derived.ChangeOld
import Derived.Below
import Derived.SizedLaws
import Derived.Deep.Slices
namespace Go.Proofs.Ytkfpkgamjpdhaaa.Au
open Go.RowKit Go.ChangeShapes Go.WideShapes Go.Deep
set_option linter.unusedVariables false
set_option linter.unusedSimpArgs false
theorem cells4 : Try.prog.cellsOf 4 = 1 := by kernel_rfl
section
variable {H : Type} {enc : TypeId × Value → H} {w : World} {base : Nat} {spare : Nat → Bool} {held : Bool}
theorem open_turns {fuel : Nat} {cs : List Value} {x : DataW H × List MemPlace} (h : DataW.trod enc Try.prog w base spare held fuel 23 cs = some x) :
    cs = [.slice none 0 0] ∨ ∃ a len cap, cs = [.slice (some a) len cap] ∧ len ≤ cap ∧ cap ≤ maxLen ∧ IsBools w (some a) len := by
  rcases open_slice1 Try.underlying23 cells4 h with ⟨h0, _⟩ | ⟨a, len, cap, m, n, V, D, Pl, rfl, hb, hl, hm, hmm, _, hi⟩
  · exact .inl h0
  · refine .inr ⟨a, len, cap, rfl, hl, hm, ?_⟩
    have hml : len ≤ m := by rw [hmm]; split <;> omega
    rcases Nat.eq_zero_or_pos len with h0 | h0
    · exact .inl h0
    · right
      have each : ∀ i, i < len → ∃ p : Bool, w.cell? (a.add i) = some (.bool p) := by
        intro i hil
        obtain ⟨hc, ht⟩ := hi i (by omega)
        obtain ⟨p, hp, _⟩ := DataW.trod_bool Try.underlying4 ht
        simp at hp
        exact ⟨p, by rw [hc, hp]⟩
      obtain ⟨p0, c0⟩ := each 0 h0
      have e0 : a.add 0 = a := by simp [Addr.add]
      rw [e0] at c0
      obtain ⟨b, off, sp⟩ := a
      obtain rfl : sp = none := spot_none c0
      have e : ∀ o j, (⟨b, o, none⟩ : Addr).add j = ⟨b, o + j, none⟩ := by
        intro o j
        unfold Addr.add
        split
        · next h0 => subst h0; rfl
        · rfl
      refine ⟨b, off, rfl, World.block_lt_of_cell? w _ c0, fun i hil => ?_⟩
      have := each i hil
      simpa only [e] using this
end
end Go.Proofs.Ytkfpkgamjpdhaaa.Au
