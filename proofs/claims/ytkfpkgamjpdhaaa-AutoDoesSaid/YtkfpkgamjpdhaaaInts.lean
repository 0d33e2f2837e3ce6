/- A slice of whole numbers that came in: what a walk may read of it. -/
import Derived.Test.YtkfpkgamjpdhaaaProg
import Derived.WalkKit
namespace Go.Proofs.Ytkfpkgamjpdhaaa.Au
open Go.RowKit
/-- A row of numbers, read. -/
def IsInts (w : World) (A : Option Addr) (n : Nat) (zs : List Int) : Prop :=
  zs.length = n ∧ (n = 0 ∨ ∃ b off, A = some ⟨b, off, none⟩ ∧ b < w.heap.size ∧ ∀ i, i < n → w.cell? ⟨b, off + i, none⟩ = some (.int .i64 (zs.getD i 0)))

theorem spot_none {w : World} {a : Addr} {v : Value} (h : w.cell? a = some v) : a.spot = none := by
  unfold World.cell? at h
  split at h
  · split at h
    · cases h
    · rename_i hs
      cases hq : a.spot with
      | none => rfl
      | some _ => rw [hq] at hs; exact absurd rfl hs
  · cases h
theorem IsInts.of_row {w : World} {a : Addr} {len : Nat} {zs : List Int} (hz : len ≤ zs.length) (hc : ∀ i, i < zs.length → w.cell? (a.add i) = some (.int .i64 (zs.getD i 0))) :
    IsInts w (some a) len (zs.take len) := by
  refine ⟨by simp; omega, ?_⟩
  rcases Nat.eq_zero_or_pos len with h | h
  · exact .inl h
  · right
    have c0 := hc 0 (by omega)
    have e0 : a.add 0 = a := by simp [Addr.add]
    rw [e0] at c0
    obtain ⟨b, off, sp⟩ := a
    obtain rfl : sp = none := spot_none c0
    refine ⟨b, off, rfl, World.block_lt_of_cell? w _ c0, fun i hi => ?_⟩
    have hi' := hc i (by omega)
    have e : (⟨b, off, none⟩ : Addr).add i = ⟨b, off + i, none⟩ := by
      unfold Addr.add
      split
      · next h0 => subst h0; rfl
      · rfl
    rw [e] at hi'
    rw [hi']
    have : (zs.take len).getD i 0 = zs.getD i 0 := by
      simp [hi]
    rw [this]
theorem IsInts.nil (w : World) : IsInts w none 0 [] := ⟨rfl, .inl rfl⟩
end Go.Proofs.Ytkfpkgamjpdhaaa.Au
