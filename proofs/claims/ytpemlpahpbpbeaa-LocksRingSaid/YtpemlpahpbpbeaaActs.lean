/- A slice of acts that came in: what a walk may read of it. -/
import Derived.Test.YtpemlpahpbpbeaaRows
import Derived.Test.YtpemlpahpbpbeaaDoes
import Derived.ProofKit
import Derived.OpenShut
import Derived.ShutString
import Derived.ChangeOld
import Derived.Below
import Derived.SizedLaws
import Derived.Deep.Slices
namespace Go.Proofs.Ytpemlpahpbpbeaa.Lk
open Go.RowKit Go.ChangeShapes Go.WideShapes Go.Deep
set_option linter.unusedVariables false
set_option linter.unusedSimpArgs false
theorem cells30 : Try.prog.cellsOf 30 = 3 := by kernel_rfl
theorem cells3 : Try.prog.cellsOf 3 = 1 := by kernel_rfl
section
variable {H : Type} {enc : TypeId × Value → H} {w : World} {base : Nat} {spare : Nat → Bool} {held : Bool}
theorem open_act {fuel : Nat} {cs : List Value} {x : DataW H × List MemPlace} (h : DataW.trod enc Try.prog w base spare held fuel 30 cs = some x) : ∃ p q r : Int, cs = [.int .i64 p, .int .i64 q, .int .i64 r] := by
  obtain ⟨xs, n, _, _, hl, hx, hf⟩ := DataW.trod_struct Try.underlying30 h
  rw [cells30] at hl
  have one : ∀ (i : Nat) (f : Field), (#[{ name := "Kind", type := 3, offset := 0, embedded := false, tag := "", pkgPath := "", byteOffset := 0 },
        { name := "Who", type := 3, offset := 1, embedded := false, tag := "", pkgPath := "", byteOffset := 8 },
        { name := "Lock", type := 3, offset := 2, embedded := false, tag := "", pkgPath := "", byteOffset := 16 }] : Array Field)[i]? = some f → f.type = 3 → ∃ p : Int, (cs.drop f.offset).take 1 = [.int .i64 p] := by
    intro i f hi ht
    have h1 := hf i f hi
    rw [ht, cells3] at h1
    have hlt : i < xs.length := by
      have := (Array.getElem?_eq_some_iff.1 hi).1
      rw [hx]; exact this
    rw [List.getElem?_eq_getElem hlt] at h1
    obtain ⟨p, hp, _⟩ := DataW.trod_int Try.underlying3 h1
    exact ⟨p, hp⟩
  obtain ⟨p, hp⟩ := one 0 _ rfl rfl
  obtain ⟨q, hq⟩ := one 1 _ rfl rfl
  obtain ⟨r, hr⟩ := one 2 _ rfl rfl
  match cs, hl with
  | [a, b, c], _ =>
    simp at hp hq hr
    subst hp hq hr
    exact ⟨p, q, r, rfl⟩
theorem open_acts {fuel : Nat} {cs : List Value} {x : DataW H × List MemPlace} (h : DataW.trod enc Try.prog w base spare held fuel 22 cs = some x) :
    cs = [.slice none 0 0] ∨ ∃ a len cap, cs = [.slice (some a) len cap] ∧ len ≤ cap ∧ cap ≤ maxLen ∧ IsOps w (some a) len := by
  rcases open_slice Try.underlying22 h with ⟨h0, _⟩ | ⟨a, len, cap, m, n, D, Pl, rfl, hb, hl, hm, hmm, _, hi⟩
  · exact .inl h0
  · refine .inr ⟨a, len, cap, rfl, hl, hm, ?_⟩
    have hml : len ≤ m := by rw [hmm]; split <;> omega
    rcases Nat.eq_zero_or_pos len with h0 | h0
    · exact .inl h0
    · right
      have each : ∀ i, i < len → ∃ p q r : Int, w.cell? (a.add (i * 3)) = some (.int .i64 p) ∧ w.cell? ((a.add (i * 3)).add 1) = some (.int .i64 q) ∧ w.cell? ((a.add (i * 3)).add 2) = some (.int .i64 r) := by
        intro i hil
        obtain ⟨cs', hc, ht⟩ := hi i (by omega)
        rw [cells30] at hc
        obtain ⟨_, _, hat⟩ := World.cells?_some hc
        obtain ⟨p, q, r, rfl⟩ := open_act ht
        have h0 := hat 0 (by omega)
        have h1 := hat 1 (by omega)
        have h2 := hat 2 (by omega)
        refine ⟨p, q, r, ?_, h1, h2⟩
        simpa [Addr.add] using h0
      obtain ⟨p0, _, _, c0, _⟩ := each 0 h0
      have e0 : a.add (0 * 3) = a := by simp [Addr.add]
      rw [e0] at c0
      obtain ⟨b, off, sp⟩ := a
      obtain rfl : sp = none := spot_none c0
      have e : ∀ o j, (⟨b, o, none⟩ : Addr).add j = ⟨b, o + j, none⟩ := by
        intro o j
        unfold Addr.add
        split
        · next h0 => subst h0; rfl
        · rfl
      refine ⟨b, off, rfl, World.block_lt_of_cell? w _ c0, fun i hil => ?_⟩
      have := each i hil
      simpa only [e] using this
end
end Go.Proofs.Ytpemlpahpbpbeaa.Lk
