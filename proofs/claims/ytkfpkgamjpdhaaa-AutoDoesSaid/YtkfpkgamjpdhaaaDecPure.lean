/- What Decide computes, and evicted on three windows. Conditions: those that each lemma names. -/
import Derived.Test.YtkfpkgamjpdhaaaEvi
namespace Go.Proofs.Ytkfpkgamjpdhaaa.Au
open Go.RowKit
set_option linter.unusedVariables false
set_option linter.unusedSimpArgs false
def pgAt (ws : List (List Int)) (c : Nat) : Int := (ws.getD 2 []).getD (3 * c + 1) 0
def frAt (ws : List (List Int)) (c : Nat) : Int := (ws.getD 2 []).getD (3 * c + 2) 0
def stepD (ws : List (List Int)) (c : Nat) (t : Int × Int × Int) : Int × Int × Int :=
  if 0 < leastW ws c 3 ∧ t.2.2 < sumW ws c 3 then (t.1, c, sumW ws c 3)
  else if sumW ws c 3 = 0 ∧ 2 ≤ pgAt ws c then (if t.1 = -1 ∨ frAt ws t.1.toNat < frAt ws c then (c : Int) else t.1, t.2.1, t.2.2)
  else t
def dec (ws : List (List Int)) : Nat → Int × Int × Int
  | 0 => (-1, -1, 0)
  | c + 1 => stepD ws c (dec ws c)
theorem dec_range {ws : List (List Int)} (c : Nat) : -1 ≤ (dec ws c).1 ∧ (dec ws c).1 < c ∧ -1 ≤ (dec ws c).2.1 ∧ (dec ws c).2.1 < c := by
  induction c with
  | zero => simp [dec]
  | succ c ih =>
    simp only [dec, stepD]
    obtain ⟨h1, h2, h3, h4⟩ := ih
    split
    · simp only; omega
    · split
      · simp only
        split <;> omega
      · omega
theorem stepD_eq {ws : List (List Int)} {c : Nat} {gv gt m s l : Int} (hd : dec ws c = (gv, gt, m)) (hs : sumW ws c 3 = s) (hl : leastW ws c 3 = l) :
    dec ws (c + 1) = if 0 < l ∧ m < s then (gv, (c : Int), s) else if s = 0 ∧ 2 ≤ pgAt ws c then (if gv = -1 ∨ frAt ws gv.toNat < frAt ws c then (c : Int) else gv, gt, m) else (gv, gt, m) := by
  simp only [dec, stepD, hd, hs, hl]
theorem evicted3 (p cl : Nat) (ws : List (List Int)) (S : Option Addr) (sc cc : Nat) (s l : Int) (w : World) (hst : St w p cl ws S sc) (hn : ws.length = 3) (hcc : cc < 8)
    (hnum : ∀ i, i < 3 → 0 ≤ evAt ws cc i ∧ evAt ws cc i ≤ 2147483647) (hs : sumW ws cc 3 = s) (hl : leastW ws cc 3 = l) :
    Calls Try.prog 18 #[.pointer (some ⟨p, 0, none⟩), .int .i64 cc] w fun e w' => e = .returned (.tuple #[.int .i64 s, .int .i64 l]) ∧ Below w.heap.size w w' := by
  have := evicted_t p cl ws S sc cc w hst hcc (by rw [hn]; exact hnum)
  rw [hn, hs, hl] at this
  exact this
end Go.Proofs.Ytkfpkgamjpdhaaa.Au
