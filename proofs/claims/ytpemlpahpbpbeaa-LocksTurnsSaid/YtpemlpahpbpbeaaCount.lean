/- How many locks who holds, and all together: plain facts on five numbers. -/
import Derived.Test.YtpemlpahpbpbeaaWorks
namespace Go.Proofs.Ytpemlpahpbpbeaa.Lk

def one (c : Prop) [Decidable c] : Int := if c then 1 else 0
def cnt : List Int → Int → Int
  | [], _ => 0
  | b :: r, w => one (0 ≤ b ∧ b < w) + cnt r w
def eqs : List Int → Int → Int
  | [], _ => 0
  | b :: r, w => one (b = w) + eqs r w
def poss : List Int → Int
  | [] => 0
  | b :: r => one (0 ≤ b) + poss r
theorem cnt_zero (l : List Int) : cnt l 0 = 0 := by
  induction l with
  | nil => rfl
  | cons b r ih => unfold cnt; rw [ih]; unfold one; rw [if_neg (by omega)]; rfl
theorem cnt_step (l : List Int) (w : Int) (hw : 0 ≤ w) : cnt l (w + 1) = cnt l w + eqs l w := by
  induction l with
  | nil => rfl
  | cons b r ih =>
    unfold cnt eqs
    rw [ih]
    have : one (0 ≤ b ∧ b < w + 1) = one (0 ≤ b ∧ b < w) + one (b = w) := by
      unfold one
      by_cases h1 : b = w
      · rw [if_pos (by omega), if_neg (by omega), if_pos h1]; rfl
      · by_cases h2 : 0 ≤ b ∧ b < w
        · rw [if_pos (by omega), if_pos h2, if_neg h1]; rfl
        · rw [if_neg (by omega), if_neg h2, if_neg h1]; rfl
    omega
theorem cnt_all (l : List Int) (h : ∀ b ∈ l, -1 ≤ b ∧ b ≤ 15) : cnt l 16 = poss l := by
  induction l with
  | nil => rfl
  | cons b r ih =>
    unfold cnt poss
    rw [ih (fun b hb => h b (List.mem_cons_of_mem _ hb))]
    have := h b (List.mem_cons_self ..)
    have : one (0 ≤ b ∧ b < 16) = one (0 ≤ b) := by
      unfold one
      by_cases h1 : 0 ≤ b
      · rw [if_pos (by omega), if_pos h1]
      · rw [if_neg (by omega), if_neg h1]
    omega
theorem cnt_range (l : List Int) (w : Int) : 0 ≤ cnt l w ∧ cnt l w ≤ l.length := by
  induction l with
  | nil => simp [cnt]
  | cons b r ih =>
    unfold cnt one
    simp only [List.length_cons]
    split <;> omega
theorem poss_range (l : List Int) : 0 ≤ poss l ∧ poss l ≤ l.length := by
  induction l with
  | nil => simp [poss]
  | cons b r ih =>
    unfold poss one
    simp only [List.length_cons]
    split <;> omega
theorem eqs_append (l r : List Int) (w : Int) : eqs (l ++ r) w = eqs l w + eqs r w := by
  induction l with
  | nil => simp [eqs]
  | cons b l ih => simp only [List.cons_append, eqs]; rw [ih]; omega
theorem poss_append (l r : List Int) : poss (l ++ r) = poss l + poss r := by
  induction l with
  | nil => simp [poss]
  | cons b l ih => simp only [List.cons_append, poss]; rw [ih]; omega
theorem heldTo_eqs (bs : List Int) (w : Int) (k : Nat) (hk : k ≤ bs.length) : ((heldTo bs w k).length : Int) = eqs (bs.take k) w := by
  induction k with
  | zero => simp [heldTo, eqs]
  | succ k ih =>
    have := ih (by omega)
    rw [List.take_succ_eq_append_getElem (by omega), eqs_append]
    have e : bs.getD k 0 = bs[k] := by simp [show k < bs.length by omega]
    by_cases h : bs.getD k 0 = w
    · rw [heldTo_yes _ _ _ h]
      rw [e] at h
      simp [eqs, one, h]; omega
    · rw [heldTo_no _ _ _ h]
      rw [e] at h
      simp [eqs, one, h]; omega
theorem held_eqs (bs : List Int) (w : Int) (h5 : bs.length = 5) : ((heldTo bs w 5).length : Int) = eqs bs w := by
  rw [heldTo_eqs bs w 5 (by omega), List.take_of_length_le (by omega)]
theorem poss_snoc (bs : List Int) (k : Nat) (hk : k < bs.length) : poss (bs.take (k + 1)) = poss (bs.take k) + one (0 ≤ bs.getD k 0) := by
  have e : bs.getD k 0 = bs[k] := by simp [hk]
  rw [List.take_succ_eq_append_getElem hk, poss_append, e]
  simp [poss]
theorem Small.mem {bs : List Int} (h : Small bs) (h5 : bs.length = 5) : ∀ b ∈ bs, -1 ≤ b ∧ b ≤ 15 := by
  intro b hb
  obtain ⟨i, hi, rfl⟩ := List.getElem_of_mem hb
  have := h i (by omega)
  simpa [hi] using this
theorem heldTo_each (bs : List Int) (w : Int) (k : Nat) : ∀ i, i < (heldTo bs w k).length → ∃ m : Nat, m < k ∧ (heldTo bs w k).getD i 0 = m ∧ bs.getD m 0 = w := by
  induction k with
  | zero => intro i hi; simp [heldTo] at hi
  | succ k ih =>
    intro i hi
    by_cases h : bs.getD k 0 = w
    · rw [heldTo_yes _ _ _ h] at hi ⊢
      by_cases hlt : i < (heldTo bs w k).length
      · obtain ⟨m, h1, h2, h3⟩ := ih i hlt
        exact ⟨m, by omega, by rw [← h2]; simp [List.getElem?_append_left hlt], h3⟩
      · have : i = (heldTo bs w k).length := by simp at hi; omega
        subst this
        exact ⟨k, by omega, by simp, h⟩
    · rw [heldTo_no _ _ _ h] at hi ⊢
      obtain ⟨m, h1, h2, h3⟩ := ih i hi
      exact ⟨m, by omega, h2, h3⟩
theorem heldTo_rise (bs : List Int) (w : Int) (k : Nat) : ∀ i, i + 1 < (heldTo bs w k).length → (heldTo bs w k).getD i 0 < (heldTo bs w k).getD (i + 1) 0 := by
  induction k with
  | zero => intro i hi; simp [heldTo] at hi
  | succ k ih =>
    intro i hi
    by_cases h : bs.getD k 0 = w
    · have he := heldTo_each bs w k
      rw [heldTo_yes _ _ _ h] at hi ⊢
      by_cases hlt : i + 1 < (heldTo bs w k).length
      · have := ih i hlt
        simpa [List.getElem?_append_left hlt, List.getElem?_append_left (show i < (heldTo bs w k).length by omega)] using this
      · have : i + 1 = (heldTo bs w k).length := by simp at hi; omega
        obtain ⟨m, h1, h2, _⟩ := he i (by omega)
        have e1 : (heldTo bs w k ++ [(k : Int)]).getD (i + 1) 0 = k := by rw [this]; simp
        have e2 : (heldTo bs w k ++ [(k : Int)]).getD i 0 = m := by rw [← h2]; simp [List.getElem?_append_left (show i < (heldTo bs w k).length by omega)]
        rw [e1, e2]; omega
    · rw [heldTo_no _ _ _ h] at hi ⊢
      exact ih i hi
end Go.Proofs.Ytpemlpahpbpbeaa.Lk
