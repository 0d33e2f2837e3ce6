/- ClockEnds: for every now, exp and ends the program's Ends and Gone answer as the document's Ends and Gone do, and the call returns true. No condition beyond the kinds of the numbers. -/
import Derived.Test.YtkhbcmhonemhfaaPClockEndsx1
namespace Go.Proofs.Ytkhbcmhonemhfaa.Pure
open Go.RowKit Go.Proofs.Ytkhbcmhonemhfaa.PClockEnds Go.Proofs.YtkhbcmhonemhfaaW.PrintWords Go.Proofs.YtkhbcmhonemhfaaW.PrintLast

theorem second_of (a : Int) : clock_second.f a = some (decide (1 ≤ a ∧ a ≤ 2147483647)) := by
  unfold clock_second.f
  by_cases h : a ≥ 1
  · rw [if_pos h]; simp; omega
  · rw [if_neg h]; simp; omega
theorem second_ref (a : Int) : tallboyref12_second.f a = some (decide (1 ≤ a ∧ a ≤ 2147483647)) := by
  unfold tallboyref12_second.f
  by_cases h : a ≥ 1
  · rw [if_pos h]; simp; omega
  · rw [if_neg h]; simp; omega

theorem ends_same (a b : Int) (ha : (Lit.int .i64 b).wf = true) : clock_Ends.f a b = tallboyref12_Ends.f a b := by
  unfold clock_Ends.f tallboyref12_Ends.f
  rw [second_of, second_ref]
  simp only [Option.bind_some]
  by_cases h : 1 ≤ a ∧ a ≤ 2147483647
  · rw [if_pos (decide_eq_true h), if_pos (decide_eq_true h)]
    by_cases h1 : b < 0
    · rw [if_pos h1, if_neg (by omega), if_pos h1]
    · rw [if_neg h1]
      by_cases h2 : b = 0
      · subst h2
        rw [if_neg (by omega), if_pos rfl]
        unfold mn
        rw [if_neg (by omega)]
        rfl
      · rw [if_pos (by omega), if_neg h2, if_neg h1]
        by_cases h3 : b ≤ 2592000
        · rw [if_pos h3, if_pos h3]
          have e1 : wrap64 (b + a) = b + a := by unfold wrap64; omega
          have e2 : wrap64 (a + b) = b + a := by unfold wrap64; omega
          rw [e1, e2]
          unfold mn
          rw [if_neg (by omega)]
        · rw [if_neg h3, if_neg h3]
          by_cases h4 : b > 4294967295
          · rw [if_pos h4]
            unfold mn
            rw [if_pos (by omega)]
            rfl
          · rw [if_neg h4]
            unfold mn
            rw [if_neg (by omega)]
  · have h' : ¬ decide (1 ≤ a ∧ a ≤ 2147483647) = true := fun e => h (of_decide_eq_true e)
    rw [if_neg h', if_neg h']

theorem gone_same (a b : Int) (ha : 0 ≤ a) : ∃ r, clock_Gone.f a b = some r ∧ tallboyref12_Gone.f a b = some r := by
  unfold clock_Gone.f tallboyref12_Gone.f
  by_cases h : a > 0
  · rw [if_pos h, if_neg (by omega)]; exact ⟨_, rfl, rfl⟩
  · rw [if_neg h, if_pos (by omega)]; exact ⟨_, rfl, rfl⟩

theorem ends_some (a b : Int) : ∃ r, tallboyref12_Ends.f a b = some r := by
  unfold tallboyref12_Ends.f
  rw [second_ref]
  simp only [Option.bind_some]
  repeat' split
  all_goals exact ⟨_, rfl⟩

/-- YOURS -/
theorem ClockEnds : tallboylaw12_ClockEnds.Pure := by
  intro a b c wa wb wc
  unfold tallboylaw12_ClockEnds.f
  rw [ends_same a b wb]
  obtain ⟨r, hr⟩ := ends_some a b
  have hc : 0 ≤ c := by
    simp [Lit.wf, IntKind.min, IntKind.max, IntKind.signed] at wc
    omega
  obtain ⟨g, h1, h2⟩ := gone_same c a hc
  rw [hr]
  simp [h1, h2]

end Go.Proofs.Ytkhbcmhonemhfaa.Pure
