/- AutoQuiet's plain law. Conditions: those that each lemma names. -/
import Derived.Test.YtkfpkgamjpdhaaaSaw
namespace Go.Proofs.Ytkfpkgamjpdhaaa.Au
open Go.RowKit
set_option linter.unusedVariables false
set_option linter.unusedSimpArgs false
theorem leastW_le (ws : List (List Int)) (c : Nat) : ∀ k i, i < k → leastW ws c k ≤ evAt ws c i := by
  intro k
  induction k with
  | zero => intro i hi; omega
  | succ k ih =>
    intro i hi
    by_cases e : i = k
    · subst e; simp only [leastW]; split <;> omega
    · have := ih i (by omega)
      simp only [leastW]; split <;> omega
theorem no_gets (ws : List (List Int)) : ∀ n, (∀ c, c < n → ¬ 0 < leastW ws c 3) → (dec ws n).2.1 = -1 := by
  intro n
  induction n with
  | zero => intro _; rfl
  | succ n ih =>
    intro h
    have ih := ih (fun c hc => h c (by omega))
    simp only [dec, stepD]
    rw [if_neg (fun hh => h n (by omega) hh.1)]
    split
    · exact ih
    · exact ih
theorem no_gives (ws : List (List Int)) : ∀ n, (∀ c, c < n → ¬ 2 ≤ pgAt ws c) → (dec ws n).1 = -1 := by
  intro n
  induction n with
  | zero => intro _; rfl
  | succ n ih =>
    intro h
    have ih := ih (fun c hc => h c (by omega))
    simp only [dec, stepD]
    split
    · exact ih
    · rw [if_neg (fun hh => h n (by omega) hh.2)]
      exact ih
theorem quiet_dec (pages : Bool) (vws : List (List Vw)) (n : Nat) (hp : pages = true → ∀ c, c < n → pgV vws c = 1) (hq : pages = false → ∃ i, i < 3 ∧ ∀ c, c < n → evV vws c i = 0) : ¬ (0 ≤ (decV vws n).1 ∧ 0 ≤ (decV vws n).2.1) := by
  intro h
  cases pages with
  | true =>
    have := no_gives (vws.map canon) n (fun c hc => by rw [pgAt_canon, hp rfl c hc]; omega)
    unfold decV at h; omega
  | false =>
    obtain ⟨i, hi, h0⟩ := hq rfl
    have := no_gets (vws.map canon) n (fun c hc => by have := leastW_le (vws.map canon) c 3 i hi; rw [evAt_canon, h0 c hc] at this; omega)
    unfold decV at h; omega
/-- What AutoQuiet's rows are like: with few pages, or without evictions in the one window. -/
def Still (pages : Bool) (a : Nat) (k : Nat) (us : List Vw) (c : Nat) : Prop :=
  (pages = true → (us.getD c (0, 0, 0)).2.1 = 1) ∧ (pages = false → k = a → (us.getD c (0, 0, 0)).1 = 0)
def Stills (pages : Bool) (a : Nat) (vws : List (List Vw)) : Prop := ∀ i, i < vws.length → ∀ c, c < 2 → Still pages a i (vws.getD i []) c
theorem Stills.snoc {pages : Bool} {a : Nat} {vws : List (List Vw)} {us : List Vw} (h : Stills pages a vws) (hu : ∀ c, c < 2 → Still pages a vws.length us c) : Stills pages a (vws ++ [us]) := by
  intro i hi c hc
  rw [List.length_append, List.length_singleton] at hi
  rw [getD_snoc]
  by_cases e : i < vws.length
  · rw [if_pos e]; exact h i e c hc
  · have e2 : i = vws.length := by omega
    subst e2
    rw [if_neg e, if_pos rfl]; exact hu c hc
theorem Stills.dec {pages : Bool} {a : Nat} {vws : List (List Vw)} (h : Stills pages a vws) (ha : a < 3) (hn : vws.length = 3) : ¬ (0 ≤ (decV vws 2).1 ∧ 0 ≤ (decV vws 2).2.1) :=
  quiet_dec pages vws 2 (fun hp c hc => (h 2 (by omega) c hc).1 hp) (fun hq => ⟨a, ha, fun c hc => (h a (by omega) c hc).2 hq rfl⟩)
theorem last3_snoc {α : Type} (l : List α) (x : α) (h : l.length < 3) : last3 (l ++ [x]) = l ++ [x] := by
  unfold last3
  rw [show (l ++ [x]).length - 3 = 0 by simp; omega]; rfl
theorem set_getD (us : List Vw) (j c : Nat) (v : Vw) (hj : j < us.length) : (us.set j v).getD c (0, 0, 0) = if c = j then v else us.getD c (0, 0, 0) := by
  by_cases h : c = j
  · subst h; simp [List.getD_eq_getElem?_getD, hj]
  · rw [if_neg h]
    simp only [List.getD_eq_getElem?_getD]
    rw [List.getElem?_set_ne (by omega)]
end Go.Proofs.Ytkfpkgamjpdhaaa.Au
