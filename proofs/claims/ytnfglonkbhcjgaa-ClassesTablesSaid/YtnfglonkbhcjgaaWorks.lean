/- The statements' `works` returns true; ClassesWhole. No condition. -/
import Derived.Test.YtnfglonkbhcjgaaForLaw
namespace Go.Proofs.Ytnfglonkbhcjgaa.Cs
open Go.RowKit
set_option linter.unusedVariables false
set_option linter.unusedSimpArgs false

theorem table_reads (o u : Int) (zs : List Int) (n : Nat) (w : World) (h1 : 1 ≤ u) (h2 : u ≤ 100) (h3 : u < o) (h4 : o ≤ 4 * u) (hz : tab o u = zs) (hn : zs.length = n) :
    Calls Try.prog 10 #[.int .i64 o, .int .i64 u] w fun e w' => ∃ g c, e = .returned (.tuple #[.slice (some ⟨g, 0, none⟩) n c, .int .i64 0]) ∧ IsInts w' (some ⟨g, 0, none⟩) n zs ∧ Below w.heap.size w w' := by
  refine (table_yes o u w h1 h2 h3 h4).mono ?_
  rintro e w' ⟨v, rfl, ⟨g, c, rfl, hg, ho⟩, hb⟩
  rw [hz, hn] at ho
  exact ⟨g, c, by rw [hz, hn], own_reads hn ho, hb⟩
theorem ints_new (w : World) (zs : List Int) (n : Nat) (hn : zs.length = n) : IsInts (w.alloc (.cells (nums zs).toArray 3 (0, 0))) (some ⟨w.heap.size, 0, none⟩) n zs := by
  refine ⟨hn, .inr ⟨w.heap.size, 0, rfl, by simp, fun i hi => ?_⟩⟩
  simp only [World.cell?, heap_alloc_at]
  have : i < zs.length := by omega
  simp [nums, this]
theorem ints_at (w : World) (g : Nat) (zs : List Int) (n : Nat) (hn : zs.length = n) (hg : w.heap.size = g) : IsInts (w.alloc (.cells (nums zs).toArray 3 (0, 0))) (some ⟨g, 0, none⟩) n zs := by
  subst hg; exact ints_new w zs n hn
theorem IsInts.drewN {w : World} {A : Option Addr} {n : Nat} {zs : List Int} (h : IsInts w A n zs) (m : Nat) : IsInts (w.drewN m) A n zs := h
theorem Below.drewN' {B : Nat} {W w : World} (h : Below B W w) (m : Nat) : Below B W (w.drewN m) := h.trans ⟨rfl, rfl, rfl, Nat.le_refl _, fun _ _ => rfl⟩

set_option maxHeartbeats 800000 in
theorem works_any (w : World) :
    Calls Try.prog 19 #[] w fun e w' => e = .returned (.bool true) ∧ Below w.heap.size w w' := by
  go_enter Try.func19, Try.ntmps19
  go_wp2_with fail
  refine (table_reads 3 2 [64, 96, 144, 216, 328, 496, 1024] 7 _ (by omega) (by omega) (by omega) (by omega) (by decide) rfl).mono ?_; rintro e w1 ⟨g1, c1, rfl, hl1, hb1⟩
  have L1 := hid hl1
  have B1 := hid hb1
  clear hl1 hb1
  go_wp2_with fail
  refine (table_reads 2 1 [64, 128, 256, 512, 1024] 5 _ (by omega) (by omega) (by omega) (by omega) (by decide) rfl).mono ?_; rintro e w2 ⟨g2, c2, rfl, hl2, hb2⟩
  have L1' := hid (L1.out.below hb2)
  have B2 := hid (B1.out.trans (hb2.mono B1.out.size))
  have L2 := hid hl2
  clear hl2 hb2 L1 B1
  go_wp2_with fail
  refine (for_any _ _ _ _ 97 _ L1'.out (by omega)).mono ?_; rintro e w' ⟨rfl, rfl⟩
  rw [show forV [64, 96, 144, 216, 328, 496, 1024] 97 = 2 from by decide, show forE [64, 96, 144, 216, 328, 496, 1024] 97 = 0 from by decide]
  go_wp2_with fail
  refine (for_any _ _ _ _ 1025 _ L1'.out (by omega)).mono ?_; rintro e w' ⟨rfl, rfl⟩
  rw [show forV [64, 96, 144, 216, 328, 496, 1024] 1025 = 0 from by decide, show forE [64, 96, 144, 216, 328, 496, 1024] 1025 = 7 from by decide]
  go_wp2_with fail
  refine (table_no 2 2 _ (by omega)).mono ?_; rintro e w' ⟨rfl, rfl⟩
  go_wp2_with fail
  refine (same_any _ _ _ _ _ _ [64, 96, 144, 216, 328, 496, 1024] [64, 96, 144, 216, 328, 496, 1024] _ ?_ ?_ (by omega) (by omega)).mono ?_
  · exact L1'.out.alloc _
  · exact ints_new _ [64, 96, 144, 216, 328, 496, 1024] 7 rfl
  rintro e w' ⟨rfl, m, rfl⟩
  rw [decide_eq_true rfl]
  go_wp2_with fail
  refine (same_any _ _ _ _ _ _ [64, 128, 256, 512, 1024] [64, 128, 256, 512, 1024] _ ?_ ?_ (by omega) (by omega)).mono ?_
  · exact ((L2.out.alloc _).drewN m).alloc _
  · exact ints_at _ _ [64, 128, 256, 512, 1024] 5 rfl (by simp)
  rintro e w' ⟨rfl, m2, rfl⟩
  rw [decide_eq_true rfl]
  go_wp2_with fail
  refine (page_any 96 _).mono ?_; rintro e w' ⟨rfl, rfl⟩
  rw [show (if (96 : Int) < 1 then (0 : Int) else 1024 / 96) = 10 from by decide]
  go_wp2_with fail
  refine (waste_any 96 _).mono ?_; rintro e w' ⟨rfl, rfl⟩
  rw [show (if (96 : Int) < 1 then (1024 : Int) else 1024 % 96) = 64 from by decide]
  go_wp2_with fail
  go_ret
  refine ⟨rfl, ?_⟩
  exact Below.drewN' ((Below.drewN' (B2.out.alloc B2.out.size _) _).alloc (by simp; have := B2.out.size; omega) _) _

theorem u64_range (x : Int) : 0 ≤ IntKind.u64.wrap x ∧ IntKind.u64.wrap x < 18446744073709551616 := by
  have : IntKind.u64.wrap x = x % 18446744073709551616 := by
    simp [IntKind.wrap, IntKind.signed, IntKind.bits]
  rw [this]; omega
theorem modu (x m : Int) (h0 : 0 < m) (h : m ≤ 4611686018427387904) : ∃ n, wrap64 ((IntKind.u64.wrap x).tmod m) = n ∧ 0 ≤ n ∧ n < m := by
  obtain ⟨a, b⟩ := u64_range x
  refine ⟨_, rfl, ?_⟩
  rw [Int.tmod_eq_emod_of_nonneg a]
  have h1 := Int.emod_nonneg (IntKind.u64.wrap x) (by omega : m ≠ 0)
  have h2 := Int.emod_lt_of_pos (IntKind.u64.wrap x) h0
  unfold wrap64
  omega
theorem modu1 (x m : Int) (h0 : 0 < m) (h : m ≤ 2305843009213693952) : ∃ n, wrap64 (1 + wrap64 ((IntKind.u64.wrap x).tmod m)) = n ∧ 1 ≤ n ∧ n ≤ m := by
  obtain ⟨n, e, a, b⟩ := modu x m h0 (by omega)
  refine ⟨1 + n, ?_, by omega, by omega⟩
  rw [e]
  unfold wrap64
  omega
theorem whole_law (x : Int) (w : World) :
    Calls Try.prog 7 #[.int .i64 x] w fun e w' => e = .returned (.bool true) ∧ Below w.heap.size w w' := by
  obtain ⟨n, en, n0, n1⟩ := modu1 x 2000 (by omega) (by omega)
  have EN := hid en; clear en
  have q0 : 0 ≤ 1024 / n := Int.ediv_nonneg (by omega) (by omega)
  have q1 : 1024 / n ≤ 1024 := Int.ediv_le_self _ (by omega)
  have q2 : 1024 / n * n + 1024 % n = 1024 := Int.ediv_mul_add_emod 1024 n
  have r0 : 0 ≤ 1024 % n := Int.emod_nonneg _ (by omega)
  have r1 : 1024 % n < n := Int.emod_lt_of_pos _ (by omega)
  have p0 : 0 ≤ 1024 / n * n := Int.mul_nonneg q0 (by omega)
  have p1 : 1024 / n * n ≤ 1024 := by omega
  obtain ⟨q, hq⟩ : ∃ q, 1024 / n = q := ⟨_, rfl⟩
  obtain ⟨r, hr⟩ : ∃ r, 1024 % n = r := ⟨_, rfl⟩
  rw [hq] at q0 q1 q2 p0 p1
  rw [hr] at q2 r0 r1
  have HQ := hid hq
  have HR := hid hr
  clear hq hr
  go_enter Try.func7, Try.ntmps7
  go_wp2_with fail
  refine (works_any _).mono ?_; rintro e w1 ⟨rfl, hb⟩
  go_wp2_with fail
  rw [EN.out]
  refine (page_any _ _).mono ?_; rintro e w' ⟨rfl, rfl⟩
  rw [if_neg (by omega), HQ.out]
  go_wp2_with fail
  refine (waste_any _ _).mono ?_; rintro e w' ⟨rfl, rfl⟩
  rw [if_neg (by omega), HR.out]
  have r2 : (r < n) = True := by simp; omega
  go_wp2_with fail
  go_ret
  exact ⟨by simp, hb⟩
end Go.Proofs.Ytnfglonkbhcjgaa.Cs
