/- What the table of a factor over / under is like: plain facts on lists of numbers. -/
import Derived.Test.YtnfglonkbhcjgaaTab
namespace Go.Proofs.Ytnfglonkbhcjgaa.Cs

theorem next_ge (o u t : Int) : t + 8 ≤ nextS o u t := by unfold nextS; split <;> omega
theorem next_mod (o u t : Int) (h : t % 8 = 0) : nextS o u t % 8 = 0 := by unfold nextS; split <;> omega
theorem fill_le (o u : Int) (k : Nat) (t : Int) : (fill o u k t).length ≤ k := by
  induction k generalizing t with
  | zero => simp [fill]
  | succ k ih =>
    unfold fill
    split
    · simp
    · have := ih (nextS o u t); simp; omega
theorem fill_pos (o u : Int) (k : Nat) (t : Int) : 0 < (fill o u (k + 1) t).length := by unfold fill; simp
theorem fill_first (o u : Int) (k : Nat) (t : Int) : (fill o u (k + 1) t).getD 0 0 = t := by unfold fill; simp
theorem fill_step (o u : Int) (k : Nat) (t : Int) : ∀ i, i + 1 < (fill o u k t).length → (fill o u k t).getD (i + 1) 0 = nextS o u ((fill o u k t).getD i 0) := by
  induction k generalizing t with
  | zero => intro i hi; simp [fill] at hi
  | succ k ih =>
    intro i hi
    by_cases h : 512 < nextS o u t
    · rw [fill_stop o u t k h] at hi; simp at hi
    · rw [fill_next o u t k h] at hi ⊢
      cases k with
      | zero => simp [fill] at hi
      | succ k =>
        cases i with
        | zero =>
          have := fill_first o u k (nextS o u t)
          simpa using this
        | succ i =>
          have := ih (nextS o u t) i (by simpa using hi)
          simpa using this
theorem fill_range (o u : Int) (k : Nat) (t : Int) (h0 : 64 ≤ t) (h1 : t ≤ 512) (h8 : t % 8 = 0) : ∀ i, i < (fill o u k t).length → 64 ≤ (fill o u k t).getD i 0 ∧ (fill o u k t).getD i 0 ≤ 512 ∧ (fill o u k t).getD i 0 % 8 = 0 := by
  induction k generalizing t with
  | zero => intro i hi; simp [fill] at hi
  | succ k ih =>
    intro i hi
    by_cases h : 512 < nextS o u t
    · rw [fill_stop o u t k h] at hi ⊢
      obtain rfl : i = 0 := by simp at hi; exact hi
      simp; omega
    · rw [fill_next o u t k h] at hi ⊢
      cases i with
      | zero => simp; omega
      | succ i =>
        have hn := next_ge o u t
        have := ih (nextS o u t) (by omega) (by omega) (next_mod o u t h8) i (by simpa using hi)
        simpa using this

/-- What is used of a table. -/
structure Facts (o u : Int) (l : List Int) : Prop where
  two : 2 ≤ l.length
  eight : l.length ≤ 8
  first : l.getD 0 0 = 64
  last : l.getD (l.length - 1) 0 = 1024
  half : l.getD (l.length - 2) 0 ≤ 512
  range : ∀ i, i < l.length → 64 ≤ l.getD i 0 ∧ l.getD i 0 ≤ 1024 ∧ l.getD i 0 % 8 = 0
  rise : ∀ i, i + 1 < l.length → l.getD i 0 < l.getD (i + 1) 0
  step : ∀ i, i + 2 < l.length → l.getD (i + 1) 0 = nextS o u (l.getD i 0)

theorem facts (o u : Int) : Facts o u (tab o u) := by
  have hp := fill_pos o u 6 64
  have hl := fill_le o u 7 64
  have hf := fill_first o u 6 64
  have hs := fill_step o u 7 64
  have hr := fill_range o u 7 64 (by omega) (by omega) (by decide)
  have e : tab o u = fill o u 7 64 ++ [1024] := rfl
  generalize fill o u 7 64 = f at *
  have hlen : (tab o u).length = f.length + 1 := by rw [e]; simp
  have hin : ∀ i, i < f.length → (tab o u).getD i 0 = f.getD i 0 := by
    intro i hi; rw [e]; simp [List.getElem?_append_left hi]
  have hla : (tab o u).getD f.length 0 = 1024 := by rw [e]; simp
  refine ⟨by omega, by omega, by rw [hin 0 hp]; exact hf, by rw [hlen]; exact hla, ?_, ?_, ?_, ?_⟩
  · rw [hlen, show f.length + 1 - 2 = f.length - 1 from by omega, hin _ (by omega)]
    exact (hr _ (by omega)).2.1
  · intro i hi
    by_cases h : i < f.length
    · rw [hin i h]; have := hr i h; omega
    · obtain rfl : i = f.length := by omega
      rw [hla]; decide
  · intro i hi
    by_cases h : i + 1 < f.length
    · rw [hin i (by omega), hin _ h, hs i h]; have := next_ge o u (f.getD i 0); omega
    · have hi1 : i + 1 = f.length := by omega
      rw [hi1, hla, hin i (by omega)]
      have := hr i (by omega); omega
  · intro i hi
    rw [hin i (by omega), hin _ (by omega), hs i (by omega)]
end Go.Proofs.Ytnfglonkbhcjgaa.Cs
