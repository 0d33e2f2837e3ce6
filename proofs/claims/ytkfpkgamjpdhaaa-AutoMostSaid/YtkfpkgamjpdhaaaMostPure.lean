/- AutoMost's plain law: one class evicts, in each of three windows; all others nothing. Conditions: those that each lemma names. -/
import Derived.Test.YtkfpkgamjpdhaaaRowV
namespace Go.Proofs.Ytkfpkgamjpdhaaa.Au
open Go.RowKit
set_option linter.unusedVariables false
set_option linter.unusedSimpArgs false
def m1000 (x : Int) : Int := wrap64 ((IntKind.u64.wrap x).tmod 1000)
theorem m1000_range (x : Int) : 0 ≤ m1000 x ∧ m1000 x < 1000 := by
  obtain ⟨n, e, h0, h1⟩ := modu x 1000 (by omega) (by omega)
  unfold m1000; rw [e]; exact ⟨h0, h1⟩
def frM (fs : List Int) (c : Nat) : Int := if c < fs.length then m1000 (fs.getD c 0) else 0
theorem frM_range (fs : List Int) (c : Nat) : 0 ≤ frM fs c ∧ frM fs c < 1000 := by
  unfold frM; split
  · exact m1000_range _
  · omega
def evM (es : List Int) (i : Nat) : Int := if i < es.length then 1 + m1000 (es.getD i 0) else 1
theorem evM_range (es : List Int) (i : Nat) : 1 ≤ evM es i ∧ evM es i ≤ 1000 := by
  unfold evM; split
  · have := m1000_range (es.getD i 0); omega
  · omega
def rowM (fs : List Int) (k : Nat) : List Vw := (List.range k).map (fun c => ((0 : Int), (2 : Int), frM fs c))
def rowZ (fs : List Int) (n C : Nat) (z : Int) : List Vw := (rowM fs n).set C (z, 2, frM fs C)
def vM (fs es : List Int) (n C k : Nat) : List (List Vw) := (List.range k).map (fun i => rowZ fs n C (evM es i))
def bestM (fs : List Int) (C : Nat) : Nat → Int
  | 0 => -1
  | k + 1 => if k ≠ C ∧ (bestM fs C k < 0 ∨ frM fs (bestM fs C k).toNat < frM fs k) then (k : Int) else bestM fs C k
theorem bestM_range (fs : List Int) (C : Nat) : ∀ k, -1 ≤ bestM fs C k ∧ bestM fs C k < k := by
  intro k
  induction k with
  | zero => simp [bestM]
  | succ k ih => simp only [bestM]; split <;> omega
theorem bestM_some (fs : List Int) (C : Nat) : ∀ k, (∃ c, c < k ∧ c ≠ C) → 0 ≤ bestM fs C k := by
  intro k
  induction k with
  | zero => rintro ⟨c, h, _⟩; omega
  | succ k ih =>
    rintro ⟨c, hc, hne⟩
    simp only [bestM]
    by_cases hk : k = C
    · have := ih ⟨c, by omega, hne⟩
      split <;> omega
    · by_cases hb : bestM fs C k < 0
      · rw [if_pos ⟨hk, .inl hb⟩]; omega
      · split <;> omega
theorem rowM_len (fs : List Int) (k : Nat) : (rowM fs k).length = k := by simp [rowM]
theorem rowM_get (fs : List Int) (k c : Nat) (hc : c < k) : (rowM fs k).getD c (0, 0, 0) = (0, 2, frM fs c) := by
  simp [rowM, List.getD_eq_getElem?_getD, hc]
theorem rowM_succ (fs : List Int) (k : Nat) : rowM fs (k + 1) = rowM fs k ++ [(0, 2, frM fs k)] := by
  simp [rowM, List.range_succ]
theorem rowZ_len (fs : List Int) (n C : Nat) (z : Int) : (rowZ fs n C z).length = n := by simp [rowZ, rowM_len]
theorem rowZ_get (fs : List Int) (n C c : Nat) (z : Int) (hc : c < n) : (rowZ fs n C z).getD c (0, 0, 0) = (if c = C then z else 0, 2, frM fs c) := by
  by_cases e : c = C
  · subst e
    simp [rowZ, List.getD_eq_getElem?_getD, rowM_len, hc]
  · rw [if_neg e]
    have := rowM_get fs n c hc
    simp only [rowZ, List.getD_eq_getElem?_getD] at this ⊢
    rw [List.getElem?_set_ne (by omega), this]
theorem rowZ_zero (fs : List Int) (n C : Nat) (hC : C < n) : rowZ fs n C 0 = rowM fs n := by
  apply List.ext_getElem (by simp [rowZ])
  intro i h1 h2
  simp [rowZ, rowM, List.getElem_set]
  intro e; subst e; rfl
theorem rowZ_set (fs : List Int) (n C : Nat) (y z : Int) (hC : C < n) : (canon (rowZ fs n C y)).set (C * 3) z = canon (rowZ fs n C z) := by
  rw [← canon_set (rowZ fs n C y) y 2 (frM fs C) C (by rw [rowZ_len]; exact hC) (by rw [rowZ_get _ _ _ _ _ hC, if_pos rfl]) z]
  simp [rowZ, List.set_set]
theorem rowZ_ok (fs : List Int) (n C : Nat) (z : Int) (hz : 0 ≤ z ∧ z ≤ 1000) : (rowZ fs n C z).all okV = true := by
  rw [List.all_eq_true]
  intro v hv
  obtain ⟨c, hc, e⟩ := List.getElem_of_mem hv
  have hc' : c < n := by rw [rowZ_len] at hc; exact hc
  have h := rowZ_get fs n C c z hc'
  rw [List.getD_eq_getElem?_getD, List.getElem?_eq_getElem hc] at h
  simp only [Option.getD_some] at h
  rw [← e, h]
  have := frM_range fs c
  unfold okV okN
  simp only [Bool.and_eq_true, decide_eq_true_eq]
  split <;> omega
theorem vM_get (fs es : List Int) (n C k i : Nat) (hi : i < k) : (vM fs es n C k).getD i [] = rowZ fs n C (evM es i) := by
  simp [vM, List.getD_eq_getElem?_getD, hi]
theorem vM_len (fs es : List Int) (n C k : Nat) : (vM fs es n C k).length = k := by simp [vM]
theorem vM_succ (fs es : List Int) (n C k : Nat) (hk : k < 3) : last3 (vM fs es n C k ++ [rowZ fs n C (evM es k)]) = vM fs es n C (k + 1) := by
  have : vM fs es n C (k + 1) = vM fs es n C k ++ [rowZ fs n C (evM es k)] := by simp [vM, List.range_succ]
  rw [this]
  unfold last3
  rw [show (vM fs es n C k ++ [rowZ fs n C (evM es k)]).length - 3 = 0 by simp [vM_len]; omega]
  rfl
/-- The plain law. -/
theorem dec_most (fs es : List Int) (n C : Nat) (hC : C < n) : ∀ k, k ≤ n → decV (vM fs es n C 3) k = (bestM fs C k, if C < k then (C : Int) else -1, if C < k then evM es 0 + evM es 1 + evM es 2 else 0) := by
  intro k
  induction k with
  | zero => intro _; rfl
  | succ k ih =>
    intro hk
    have ih := ih (by omega)
    have r0 := evM_range es 0
    have r1 := evM_range es 1
    have r2 := evM_range es 2
    have ev : ∀ i, i < 3 → evAt ((vM fs es n C 3).map canon) k i = if k = C then evM es i else 0 := by
      intro i hi
      rw [evAt_canon]; unfold evV
      rw [vM_get _ _ _ _ _ _ hi, rowZ_get _ _ _ _ _ (by omega)]
    have pg : pgAt ((vM fs es n C 3).map canon) k = 2 := by
      rw [pgAt_canon]; unfold pgV
      rw [vM_get _ _ _ _ _ _ (by omega), rowZ_get _ _ _ _ _ (by omega)]
    have fr : ∀ c, c < n → frAt ((vM fs es n C 3).map canon) c = frM fs c := by
      intro c hc
      rw [frAt_canon]; unfold frV
      rw [vM_get _ _ _ _ _ _ (by omega), rowZ_get _ _ _ _ _ hc]
    have hs : sumW ((vM fs es n C 3).map canon) k 3 = if k = C then evM es 0 + evM es 1 + evM es 2 else 0 := by
      simp only [sumW, ev 0 (by omega), ev 1 (by omega), ev 2 (by omega)]
      split <;> omega
    have hl : k = C → 0 < leastW ((vM fs es n C 3).map canon) k 3 := by
      intro e
      simp only [leastW, ev 0 (by omega), ev 1 (by omega), ev 2 (by omega), if_pos e]
      repeat' split
      all_goals omega
    have hb := bestM_range fs C k
    unfold decV at ih ⊢
    simp only [dec, stepD, ih, hs, pg, bestM]
    by_cases e : k = C
    · have := hl e
      subst e
      rw [if_neg (Nat.lt_irrefl k), if_pos rfl, if_pos ⟨this, by omega⟩, if_neg (fun h => h.1 rfl), if_pos (by omega), if_pos (by omega)]
    · rw [if_neg e, if_neg (by split <;> omega), if_pos ⟨rfl, by omega⟩]
      have e1 : (C < k + 1) ↔ C < k := by omega
      simp only [e1]
      congr 1
      rw [fr k (by omega)]
      by_cases hb0 : bestM fs C k = -1
      · rw [if_pos (.inl hb0), if_pos ⟨e, .inl (by omega)⟩]
      · rw [fr (bestM fs C k).toNat (by omega)]
        by_cases hf : frM fs (bestM fs C k).toNat < frM fs k
        · rw [if_pos (.inr hf), if_pos ⟨e, .inr hf⟩]
        · rw [if_neg (fun h => h.elim hb0 hf), if_neg (fun h => h.2.elim (by omega) hf)]
end Go.Proofs.Ytkfpkgamjpdhaaa.Au
