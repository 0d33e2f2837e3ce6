/- A slice of slices of views that came in: what a walk may read of it. -/
import Derived.Test.YtkfpkgamjpdhaaaRows
import Derived.Test.YtkfpkgamjpdhaaaMem
import Derived.ProofKit
import Derived.OpenShut
import Derived.ShutString
import Derived.ChangeOld
import Derived.Below
import Derived.SizedLaws
import Derived.Deep.Slices
namespace Go.Proofs.Ytkfpkgamjpdhaaa.Au
open Go.RowKit Go.ChangeShapes Go.WideShapes Go.Deep
set_option linter.unusedVariables false
set_option linter.unusedSimpArgs false
/-- A row of rows of views. -/
def IsRows (w : World) (A : Option Addr) (n : Nat) : Prop :=
  n = 0 ∨ ∃ b off, A = some ⟨b, off, none⟩ ∧ b < w.heap.size ∧ ∀ i, i < n → ∃ A' n' c' vs, w.cell? ⟨b, off + i, none⟩ = some (.slice A' n' c') ∧ IsViews w A' n' vs ∧ n' ≤ 9223372036854775807
theorem cells44 : Try.prog.cellsOf 44 = 3 := by kernel_rfl
theorem cells3 : Try.prog.cellsOf 3 = 1 := by kernel_rfl
theorem cells31 : Try.prog.cellsOf 31 = 1 := by kernel_rfl
section
variable {H : Type} {enc : TypeId × Value → H} {w : World} {base : Nat} {spare : Nat → Bool} {held : Bool}
theorem open_view {fuel : Nat} {cs : List Value} {x : DataW H × List MemPlace} (h : DataW.trod enc Try.prog w base spare held fuel 44 cs = some x) : ∃ p q r : Int, cs = [.int .i64 p, .int .i64 q, .int .i64 r] := by
  obtain ⟨xs, n, _, _, hl, hx, hf⟩ := DataW.trod_struct Try.underlying44 h
  rw [cells44] at hl
  have one : ∀ (i : Nat) (f : Field), (#[{ name := "Evicted", type := 3, offset := 0, embedded := false, tag := "", pkgPath := "", byteOffset := 0 },
        { name := "Pages", type := 3, offset := 1, embedded := false, tag := "", pkgPath := "", byteOffset := 8 },
        { name := "Free", type := 3, offset := 2, embedded := false, tag := "", pkgPath := "", byteOffset := 16 }] : Array Field)[i]? = some f → f.type = 3 → ∃ p : Int, (cs.drop f.offset).take 1 = [.int .i64 p] := by
    intro i f hi ht
    have h1 := hf i f hi
    rw [ht, cells3] at h1
    have hlt : i < xs.length := by
      have := (Array.getElem?_eq_some_iff.1 hi).1
      rw [hx]; exact this
    rw [List.getElem?_eq_getElem hlt] at h1
    obtain ⟨p, hp, _⟩ := DataW.trod_int Try.underlying3 h1
    exact ⟨p, hp⟩
  obtain ⟨p, hp⟩ := one 0 _ rfl rfl
  obtain ⟨q, hq⟩ := one 1 _ rfl rfl
  obtain ⟨r, hr⟩ := one 2 _ rfl rfl
  match cs, hl with
  | [a, b, c], _ =>
    simp at hp hq hr
    subst hp hq hr
    exact ⟨p, q, r, rfl⟩
theorem plain_add (o b j : Nat) : (⟨b, o, none⟩ : Addr).add j = ⟨b, o + j, none⟩ := by
  unfold Addr.add
  split
  · next h0 => subst h0; rfl
  · rfl
theorem open_views {fuel : Nat} {cs : List Value} {x : DataW H × List MemPlace} (h : DataW.trod enc Try.prog w base spare held fuel 31 cs = some x) :
    ∃ A n c vs, cs = [.slice A n c] ∧ IsViews w A n vs ∧ n ≤ maxLen := by
  rcases open_slice Try.underlying31 h with ⟨h0, _⟩ | ⟨a, len, cap, m, n, D, Pl, rfl, hb, hl, hm, hmm, _, hi⟩
  · exact ⟨none, 0, 0, [], h0, ⟨rfl, .inl rfl⟩, Nat.zero_le _⟩
  · have hml : len ≤ m := by rw [hmm]; split <;> omega
    rcases Nat.eq_zero_or_pos len with h0 | h0
    · exact ⟨_, _, _, [], rfl, ⟨by rw [h0]; rfl, .inl h0⟩, by omega⟩
    · have each : ∀ i, i < len → ∃ v : (Int × Int × Int), w.cell? (a.add (i * 3)) = some (.int .i64 v.1) ∧ w.cell? ((a.add (i * 3)).add 1) = some (.int .i64 v.2.1) ∧ w.cell? ((a.add (i * 3)).add 2) = some (.int .i64 v.2.2) := by
        intro i hil
        obtain ⟨cs', hc, ht⟩ := hi i (by omega)
        rw [cells44] at hc
        obtain ⟨_, _, hat⟩ := World.cells?_some hc
        obtain ⟨p, q, r, rfl⟩ := open_view ht
        have h0 := hat 0 (by omega)
        have h1 := hat 1 (by omega)
        have h2 := hat 2 (by omega)
        refine ⟨(p, q, r), ?_, h1, h2⟩
        simpa [Addr.add] using h0
      obtain ⟨_, c0, _⟩ := each 0 h0
      have e0 : a.add (0 * 3) = a := by simp [Addr.add]
      rw [e0] at c0
      obtain ⟨b, off, sp⟩ := a
      obtain rfl : sp = none := spot_none c0
      obtain ⟨f, hf⟩ := choose_lt (α := (Int × Int × Int)) (n := len) each
      refine ⟨_, _, _, (List.range len).map f, rfl, ⟨by simp, .inr ⟨b, off, rfl, World.block_lt_of_cell? w _ c0, fun i hil => ?_⟩⟩, by omega⟩
      have hg : ((List.range len).map f).getD i (0, 0, 0) = f i := by simp [List.getD_eq_getElem?_getD, hil]
      rw [hg]
      have := hf i hil
      simpa only [plain_add] using this
theorem open_rows {fuel : Nat} {cs : List Value} {x : DataW H × List MemPlace} (h : DataW.trod enc Try.prog w base spare held fuel 22 cs = some x) :
    cs = [.slice none 0 0] ∨ ∃ a len cap, cs = [.slice (some a) len cap] ∧ len ≤ cap ∧ cap ≤ maxLen ∧ IsRows w (some a) len := by
  rcases open_slice1 Try.underlying22 cells31 h with ⟨h0, _⟩ | ⟨a, len, cap, m, n, V, D, Pl, rfl, hb, hl, hm, hmm, _, hi⟩
  · exact .inl h0
  · refine .inr ⟨a, len, cap, rfl, hl, hm, ?_⟩
    have hml : len ≤ m := by rw [hmm]; split <;> omega
    rcases Nat.eq_zero_or_pos len with h0 | h0
    · exact .inl h0
    · right
      have c0 := (hi 0 (by omega)).1
      have e0 : a.add 0 = a := by simp [Addr.add]
      rw [e0] at c0
      obtain ⟨b, off, sp⟩ := a
      obtain rfl : sp = none := spot_none c0
      refine ⟨b, off, rfl, World.block_lt_of_cell? w _ c0, fun i hil => ?_⟩
      obtain ⟨h1, h2⟩ := hi i (by omega)
      obtain ⟨A', n', c', vs, e, hv, hn'⟩ := open_views h2
      simp only [List.cons.injEq, and_true] at e
      rw [e, plain_add] at h1
      exact ⟨A', n', c', vs, h1, hv, by unfold maxLen at hn'; omega⟩
end
end Go.Proofs.Ytkfpkgamjpdhaaa.Au
