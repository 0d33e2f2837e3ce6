/- ClassesRise: for every over and under the call returns true. No condition. -/
import Derived.Test.YtnfglonkbhcjgaaWorks
import Derived.Test.YtnfglonkbhcjgaaFacts
namespace Go.Proofs.Ytnfglonkbhcjgaa.Cs
open Go.RowKit
set_option linter.unusedVariables false
set_option linter.unusedSimpArgs false
theorem modo (ov u : Int) (h0 : 1 ≤ u) (h1 : u ≤ 100) : ∃ o, wrap64 (u + 1 + wrap64 ((IntKind.u64.wrap ov).tmod (3 * u))) = o ∧ u < o ∧ o ≤ 4 * u := by
  obtain ⟨n, e, a, b⟩ := modu ov (3 * u) (by omega) (by omega)
  refine ⟨u + 1 + n, ?_, by omega, by omega⟩
  rw [e]
  unfold wrap64
  omega
set_option maxHeartbeats 400000 in
theorem rise_law (ov un : Int) (w : World) :
    Calls Try.prog 5 #[.int .i64 ov, .int .i64 un] w fun e w' => e = .returned (.bool true) ∧ Below w.heap.size w w' := by
  obtain ⟨u, eu, u0, u1⟩ := modu1 un 100 (by omega) (by omega)
  have EU := hid eu; clear eu
  obtain ⟨o, eo, o0, o1⟩ := modo ov u u0 u1
  have EO := hid eo; clear eo
  have F := hid (facts o u)
  obtain ⟨l, hl⟩ : ∃ l, tab o u = l := ⟨_, rfl⟩
  rw [hl] at F
  have HL := hid hl
  clear hl
  obtain ⟨m, hm⟩ : ∃ m, l.length = m + 2 := ⟨l.length - 2, by have := F.out.two; omega⟩
  have m6 : m ≤ 6 := by have := F.out.eight; omega
  have M := hid hm
  clear hm
  go_enter Try.func5, Try.ntmps5
  go_wp2_with fail
  refine (works_any _).mono ?_; rintro e w1 ⟨rfl, hb⟩
  have B1 := hid hb
  clear hb
  go_upto_region 4 with fail
  rw [EU.out]
  go_wp2_with fail
  rw [EO.out]
  refine (table_reads o u l (m + 2) _ u0 u1 o0 o1 HL.out M.out).mono ?_; rintro e w2 ⟨g, c, rfl, hl2, hb2⟩
  have B2 := hid (B1.out.trans (hb2.mono B1.out.size))
  have L2 := hid hl2
  clear hl2 hb2
  have hc : ∀ i, i < m + 2 → w2.cell? ⟨g, i, none⟩ = some (.int .i64 (l.getD i 0)) := by
    intro i hi
    rcases L2.out with ⟨_, h | ⟨b, off, hg, _, h⟩⟩
    · omega
    · cases hg; simpa using h i hi
  have C := hid hc
  clear hc
  have c0 := C.out 0 (by omega)
  rw [F.out.first] at c0
  have c1 := C.out (m + 1) (by omega)
  rw [show l.getD (m + 1) 0 = 1024 from by have := F.out.last; rw [M.out] at this; exact this] at c1
  have c2 := C.out m (by omega)
  have hh : l.getD m 0 ≤ 512 := by have := F.out.half; rw [M.out] at this; exact this
  obtain ⟨y, hy⟩ : ∃ y, l.getD m 0 = y := ⟨_, rfl⟩
  rw [hy] at c2 hh
  clear hy
  go_wp2_with fail
  go_loopw [7] (fun i wr => ∃ k d : Nat, k ≤ m + 2 ∧ i = .int .i64 k ∧ wr = w2.drewN d) (fun i _ => (m + 2) - (intOf i).toNat)
  case atStart => exact ⟨0, 0, Nat.zero_le _, rfl, rfl⟩
  case round =>
    clear c0 c1 c2 hh
    obtain ⟨k, d, hk, rfl, rfl⟩ := hrel
    by_cases hlt : k < m + 2
    · have ha := C.out k hlt
      have hr := F.out.range k (by rw [M.out]; exact hlt)
      cases k with
      | zero =>
        obtain ⟨z, hz⟩ : ∃ z, l.getD 0 0 = z := ⟨_, rfl⟩
        rw [hz] at ha hr
        clear hz
        obtain ⟨z0, z1, z8⟩ := hr
        have zb : (z % 8 != 0) = false := by simp; omega
        clear z8
        go_wp2_with fail
        go_quiet (fail)
        go_wp2_with fail
        go_roundw
        case rel => exact ⟨1, d + nq, by omega, rfl, rfl⟩
        case measure => simp [intOf]
      | succ j =>
        have hb := C.out j (by omega)
        have hs := F.out.rise j (by rw [M.out]; omega)
        obtain ⟨z, hz⟩ : ∃ z, l.getD (j + 1) 0 = z := ⟨_, rfl⟩
        rw [hz] at ha hr hs
        clear hz
        obtain ⟨y, hy⟩ : ∃ y, l.getD j 0 = y := ⟨_, rfl⟩
        rw [hy] at hb hs
        clear hy
        obtain ⟨z0, z1, z8⟩ := hr
        have zb : (z % 8 != 0) = false := by simp; omega
        clear z8
        have hd : decide (z ≤ y) = false := by simp; omega
        go_wp2_with fail
        go_quiet (fail)
        go_wp2_with fail
        go_roundw
        case rel => exact ⟨j + 2, d + nq, by omega, by go_num, rfl⟩
        case measure => simp [intOf]; omega
    · obtain rfl : k = m + 2 := by omega
      go_wp2_with fail
      go_ret
      exact ⟨rfl, Below.drewN' B2.out _⟩
end Go.Proofs.Ytnfglonkbhcjgaa.Cs
