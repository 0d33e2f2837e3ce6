/- ClockKeeps, ClockNever, ClockMonth: for every now, exp and d the call returns true. No condition. -/
import Derived.Test.YtkhbcmhonemhfaaCk
namespace Go.Proofs.Ytkhbcmhonemhfaa.Ck
open Go.RowKit
set_option linter.unusedVariables false
set_option linter.unusedSimpArgs false

theorem u64_range (x : Int) : 0 ≤ IntKind.u64.wrap x ∧ IntKind.u64.wrap x < 18446744073709551616 := by
  have : IntKind.u64.wrap x = x % 18446744073709551616 := by
    simp [IntKind.wrap, IntKind.signed, IntKind.bits]
  rw [this]; omega
theorem modu (x m : Int) (h0 : 0 < m) (h : m ≤ 4611686018427387904) : ∃ n, wrap64 ((IntKind.u64.wrap x).tmod m) = n ∧ 0 ≤ n ∧ n < m := by
  obtain ⟨a, b⟩ := u64_range x
  refine ⟨_, rfl, ?_⟩
  rw [Int.tmod_eq_emod_of_nonneg a]
  have h1 := Int.emod_nonneg (IntKind.u64.wrap x) (by omega : m ≠ 0)
  have h2 := Int.emod_lt_of_pos (IntKind.u64.wrap x) h0
  unfold wrap64
  omega
theorem modu1 (x m : Int) (h0 : 0 < m) (h : m ≤ 2305843009213693952) : ∃ n, wrap64 (1 + wrap64 ((IntKind.u64.wrap x).tmod m)) = n ∧ 1 ≤ n ∧ n ≤ m := by
  obtain ⟨n, e, a, b⟩ := modu x m h0 (by omega)
  refine ⟨1 + n, ?_, by omega, by omega⟩
  rw [e]
  unfold wrap64
  omega

theorem keeps_law (now exp d : Int) (w : World) :
    Calls Try.prog 5 #[.int .i64 now, .int .i64 exp, .int .i64 d] w fun e w' => e = .returned (.bool true) ∧ Below w.heap.size w w' := by
  obtain ⟨n, en, n0, n1⟩ := modu1 now 1073741824 (by omega) (by omega)
  obtain ⟨x, ex, x0, x1⟩ := modu1 exp 2592000 (by omega) (by omega)
  obtain ⟨y, ey, y0, y1⟩ := modu d 4194304 (by omega) (by omega)
  have EN := hid en; clear en
  have EX := hid ex; clear ex
  have EY := hid ey; clear ey
  obtain ⟨v0, v1⟩ := endsOf_range n x n0 (by omega)
  have hv : endsOf n x = x + n := by unfold endsOf; rw [if_neg (by omega), if_pos ⟨by omega, x1⟩]
  go_enter Try.func5, Try.ntmps5
  go_wp2_with fail
  refine (works_any _).mono ?_; rintro e w1 ⟨rfl, hb⟩
  go_wp2_with fail
  rw [EN.out, EX.out, EY.out]
  refine (ends_yes n x _ n0 (by omega)).mono ?_; rintro e w' ⟨rfl, rfl⟩
  rw [hv]
  clear hv v0 v1
  have s1 : n + y ≤ 1077936128 := by omega
  have s0 : 0 ≤ n + y := by omega
  by_cases hd : x ≤ y
  · have b1 : (decide (0 < x + n ∧ x + n ≤ n + y)) = true := by simp; omega
    have b2 : (decide (0 < x + n ∧ x + n ≤ n)) = false := by simp; omega
    have b3 : decide (x ≤ y) = true := by simp; omega
    go_wp2_with fail
    refine (gone_any _ _ _ (by omega) (by omega)).mono ?_; rintro e w' ⟨rfl, rfl⟩
    rw [b1]
    go_wp2_with fail
    refine (gone_any _ _ _ (by omega) (by omega)).mono ?_; rintro e w' ⟨rfl, rfl⟩
    rw [b2]
    go_wp2_with fail
    go_ret
    exact ⟨rfl, hb⟩
  · have b1 : (decide (0 < x + n ∧ x + n ≤ n + y)) = false := by simp; omega
    have b2 : (decide (0 < x + n ∧ x + n ≤ n)) = false := by simp; omega
    have b3 : decide (x ≤ y) = false := by simp; omega
    go_wp2_with fail
    refine (gone_any _ _ _ (by omega) (by omega)).mono ?_; rintro e w' ⟨rfl, rfl⟩
    rw [b1]
    go_wp2_with fail
    refine (gone_any _ _ _ (by omega) (by omega)).mono ?_; rintro e w' ⟨rfl, rfl⟩
    rw [b2]
    go_wp2_with fail
    go_ret
    exact ⟨rfl, hb⟩
theorem modum (x m : Int) (h0 : 0 < m) (h : m ≤ 2305843009213693952) : ∃ n, wrap64 (-1 - wrap64 ((IntKind.u64.wrap x).tmod m)) = n ∧ n < 0 := by
  obtain ⟨n, e, a, b⟩ := modu x m h0 (by omega)
  refine ⟨-1 - n, ?_, by omega⟩
  rw [e]
  unfold wrap64
  omega
theorem never_law (now exp d : Int) (w : World) :
    Calls Try.prog 6 #[.int .i64 now, .int .i64 exp, .int .i64 d] w fun e w' => e = .returned (.bool true) ∧ Below w.heap.size w w' := by
  obtain ⟨n, en, n0, n1⟩ := modu1 now 2147483647 (by omega) (by omega)
  obtain ⟨x, ex, x0⟩ := modum exp 1099511627776 (by omega) (by omega)
  obtain ⟨y, ey, y0, y1⟩ := modu d 2147483648 (by omega) (by omega)
  have EN := hid en; clear en
  have EX := hid ex; clear ex
  have EY := hid ey; clear ey
  have hv : endsOf n 0 = 0 := rfl
  have hv' : endsOf n x = 1 := by unfold endsOf; rw [if_pos x0]
  have HV := hid hv; clear hv
  have HV' := hid hv'; clear hv'
  go_enter Try.func6, Try.ntmps6
  go_wp2_with fail
  refine (works_any _).mono ?_; rintro e w1 ⟨rfl, hb⟩
  go_wp2_with fail
  rw [EN.out, EY.out]
  refine (ends_yes n 0 _ n0 (by omega)).mono ?_; rintro e w' ⟨rfl, rfl⟩
  rw [HV.out]
  go_wp2_with fail
  rw [EX.out]
  refine (ends_yes n x _ n0 (by omega)).mono ?_; rintro e w' ⟨rfl, rfl⟩
  rw [HV'.out]
  go_wp2_with fail
  refine (gone_any _ _ _ (by omega) (by omega)).mono ?_; rintro e w' ⟨rfl, rfl⟩
  rw [show (decide ((0 : Int) < 0 ∧ 0 ≤ n + y)) = false from by simp]
  go_wp2_with fail
  refine (gone_any _ _ _ (by omega) (by omega)).mono ?_; rintro e w' ⟨rfl, rfl⟩
  rw [show (decide ((0 : Int) < 1 ∧ 1 ≤ n)) = true from by simp; omega]
  go_wp2_with fail
  go_ret
  exact ⟨rfl, hb⟩
theorem month_law (now exp : Int) (w : World) :
    Calls Try.prog 7 #[.int .i64 now, .int .i64 exp] w fun e w' => e = .returned (.bool true) ∧ Below w.heap.size w w' := by
  obtain ⟨n, en, n0, n1⟩ := modu1 now 2147483647 (by omega) (by omega)
  obtain ⟨x, ex, x0, x1⟩ := modu1 exp 8589934592 (by omega) (by omega)
  have EN := hid en; clear en
  have EX := hid ex; clear ex
  obtain ⟨v0, v1⟩ := endsOf_range n x n0 (by omega)
  go_enter Try.func7, Try.ntmps7
  go_wp2_with fail
  refine (works_any _).mono ?_; rintro e w1 ⟨rfl, hb⟩
  go_wp2_with fail
  rw [EN.out, EX.out]
  refine (ends_yes n x _ n0 (by omega)).mono ?_; rintro e w' ⟨rfl, rfl⟩
  by_cases a : x ≤ 2592000
  · have hv : endsOf n x = n + x := by unfold endsOf; rw [if_neg (by omega), if_pos ⟨by omega, a⟩]; omega
    rw [hv]
    clear hv v0 v1
    have s1 : n + x ≤ 2150075647 := by omega
    have s0 : 0 ≤ n + x := by omega
    have z : (n + x == 0) = false := by simp; omega
    have b1 : (decide (0 < n + x ∧ n + x ≤ n)) = false := by simp; omega
    go_wp2_with fail
    refine (gone_any _ _ _ (by omega) (by omega)).mono ?_; rintro e w' ⟨rfl, rfl⟩
    rw [b1]
    go_wp2_with fail
    go_ret
    exact ⟨rfl, hb⟩
  · by_cases b : 4294967295 < x
    · have hv : endsOf n x = 4294967295 := by unfold endsOf; rw [if_neg (by omega), if_neg (by omega), if_neg (by omega)]
      rw [hv]
      clear hv v0 v1
      go_wp2_with fail
      go_ret
      exact ⟨rfl, hb⟩
    · have hv : endsOf n x = x := by unfold endsOf; rw [if_neg (by omega), if_neg (by omega), if_pos (by omega)]
      rw [hv]
      clear hv v0 v1
      have z : (x == 0) = false := by simp; omega
      by_cases c : x ≤ n
      · have b1 : (decide (0 < x ∧ x ≤ n)) = true := by simp; omega
        go_wp2_with fail
        refine (gone_any _ _ _ (by omega) (by omega)).mono ?_; rintro e w' ⟨rfl, rfl⟩
        rw [b1]
        go_wp2_with fail
        go_ret
        exact ⟨rfl, hb⟩
      · have b1 : (decide (0 < x ∧ x ≤ n)) = false := by simp; omega
        have b3 : decide (x ≤ n) = false := by simp; omega
        go_wp2_with fail
        refine (gone_any _ _ _ (by omega) (by omega)).mono ?_; rintro e w' ⟨rfl, rfl⟩
        rw [b1]
        go_wp2_with fail
        go_ret
        exact ⟨rfl, hb⟩
end Go.Proofs.Ytkhbcmhonemhfaa.Ck
