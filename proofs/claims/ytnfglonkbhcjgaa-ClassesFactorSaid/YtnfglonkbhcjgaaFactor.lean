/- ClassesFactor: for every over and under the call returns true. No condition. -/
import Derived.Test.YtnfglonkbhcjgaaRise
namespace Go.Proofs.Ytnfglonkbhcjgaa.Cs
open Go.RowKit
set_option linter.unusedVariables false
set_option linter.unusedSimpArgs false
set_option maxHeartbeats 400000 in
theorem factor_law (ov un : Int) (w : World) :
    Calls Try.prog 8 #[.int .i64 ov, .int .i64 un] w fun e w' => e = .returned (.bool true) ∧ Below w.heap.size w w' := by
  obtain ⟨u, eu, u0, u1⟩ := modu1 un 100 (by omega) (by omega)
  have EU := hid eu; clear eu
  obtain ⟨o, eo, o0, o1⟩ := modo ov u u0 u1
  have EO := hid eo; clear eo
  have F := hid (facts o u)
  obtain ⟨l, hl⟩ : ∃ l, tab o u = l := ⟨_, rfl⟩
  rw [hl] at F
  have HL := hid hl
  clear hl
  obtain ⟨m, hm⟩ : ∃ m, l.length = m + 2 := ⟨l.length - 2, by have := F.out.two; omega⟩
  have m6 : m ≤ 6 := by have := F.out.eight; omega
  have M := hid hm
  clear hm
  have o9 : o ≤ 400 := by omega
  go_enter Try.func8, Try.ntmps8
  go_wp2_with fail
  refine (works_any _).mono ?_; rintro e w1 ⟨rfl, hb⟩
  have B1 := hid hb
  clear hb
  go_upto_region 4 with fail
  rw [EU.out]
  go_wp2_with fail
  rw [EO.out]
  refine (table_reads o u l (m + 2) _ u0 u1 o0 o1 HL.out M.out).mono ?_; rintro e w2 ⟨g, c, rfl, hl2, hb2⟩
  have B2 := hid (B1.out.trans (hb2.mono B1.out.size))
  have L2 := hid hl2
  clear hl2 hb2
  have hc : ∀ i, i < m + 2 → w2.cell? ⟨g, i, none⟩ = some (.int .i64 (l.getD i 0)) := by
    intro i hi
    rcases L2.out with ⟨_, h | ⟨b, off, hg, _, h⟩⟩
    · omega
    · cases hg; simpa using h i hi
  have C := hid hc
  clear hc
  go_wp2_with fail
  go_loopw [7] (fun i wr => ∃ k d : Nat, 1 ≤ k ∧ k ≤ m + 1 ∧ i = .int .i64 k ∧ wr = w2.drewN d) (fun i _ => (m + 2) - (intOf i).toNat)
  case atStart => exact ⟨1, 0, by omega, by omega, rfl, rfl⟩
  case round =>
    obtain ⟨k, d, hk0, hk, rfl, rfl⟩ := hrel
    by_cases hlt : k < m + 1
    · obtain ⟨j, rfl⟩ : ∃ j, k = j + 1 := ⟨k - 1, by omega⟩
      have ha := C.out j (by omega)
      have hb := C.out (j + 1) (by omega)
      have hr := F.out.range j (by rw [M.out]; omega)
      have hs := F.out.step j (by rw [M.out]; omega)
      unfold nextS at hs
      obtain ⟨y, hy⟩ : ∃ y, l.getD (j + 1) 0 = y := ⟨_, rfl⟩
      rw [hy] at hb hs
      clear hy
      obtain ⟨z, hz⟩ : ∃ z, l.getD j 0 = z := ⟨_, rfl⟩
      rw [hz] at ha hr hs
      clear hz
      obtain ⟨z0, z1, z8⟩ := hr
      have b0 : 0 ≤ z * o := Int.mul_nonneg (by omega) (by omega)
      have b1 : z * o ≤ 409600 := by
        have := Int.mul_le_mul z1 o9 (by omega) (by omega)
        omega
      have q0 : 0 ≤ z * o / u := Int.ediv_nonneg b0 (by omega)
      have q1 : z * o / u ≤ 409600 := by
        have := Int.ediv_le_self u b0
        omega
      have hy1 : z * o / u ≤ y := by rw [hs]; split <;> omega
      have hy2 : z * o / u + 8 ≤ y → y = z + 8 := by rw [hs]; split <;> omega
      have h1 : decide (y < z * o / u) = false := by simp; omega
      clear hs z8
      by_cases h8 : z * o / u + 8 ≤ y
      · have e8 := hy2 h8
        have h2 : decide (z * o / u + 8 ≤ y) = true := by simp; omega
        have h3 : (y != z + 8) = false := by simp; omega
        clear hy1 hy2 e8
        go_wp2_with fail
        go_quiet (fail)
        go_wp2_with fail
        go_roundw
        case rel => exact ⟨j + 2, d + nq, by omega, by omega, by go_num, rfl⟩
        case measure => simp [intOf]; omega
      · have h2 : decide (z * o / u + 8 ≤ y) = false := by simp; omega
        clear hy1 hy2
        go_wp2_with fail
        go_quiet (fail)
        go_wp2_with fail
        go_roundw
        case rel => exact ⟨j + 2, d + nq, by omega, by omega, by go_num, rfl⟩
        case measure => simp [intOf]; omega
    · obtain rfl : k = m + 1 := by omega
      go_wp2_with fail
      go_ret
      exact ⟨rfl, Below.drewN' B2.out _⟩
end Go.Proofs.Ytnfglonkbhcjgaa.Cs
