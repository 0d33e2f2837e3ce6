/- ClassesSame: for every over, under and times the call returns true. No condition. -/
import Derived.Test.YtnfglonkbhcjgaaRise
namespace Go.Proofs.Ytnfglonkbhcjgaa.Cs
open Go.RowKit
set_option linter.unusedVariables false
set_option linter.unusedSimpArgs false
theorem next_times (o u t k : Int) (hk : 0 < k) : nextS (o * k) (u * k) t = nextS o u t := by
  unfold nextS
  rw [← Int.mul_assoc, Int.mul_ediv_mul_of_pos_left _ _ hk]
theorem fill_times (o u k : Int) (hk : 0 < k) (n : Nat) (t : Int) : fill (o * k) (u * k) n t = fill o u n t := by
  induction n generalizing t with
  | zero => rfl
  | succ n ih => unfold fill; rw [next_times o u t k hk, ih]
theorem tab_times (o u k : Int) (hk : 0 < k) : tab (o * k) (u * k) = tab o u := by unfold tab; rw [fill_times o u k hk]
theorem modo20 (ov u : Int) (h0 : 1 ≤ u) (h1 : u ≤ 20) : ∃ o, wrap64 (u + 1 + wrap64 ((IntKind.u64.wrap ov).tmod (3 * u))) = o ∧ u < o ∧ o ≤ 4 * u := modo ov u h0 (by omega)
set_option maxHeartbeats 800000 in
theorem same_law (ov un tm : Int) (w : World) :
    Calls Try.prog 9 #[.int .i64 ov, .int .i64 un, .int .i64 tm] w fun e w' => e = .returned (.bool true) ∧ Below w.heap.size w w' := by
  obtain ⟨u, eu, u0, u1⟩ := modu1 un 20 (by omega) (by omega)
  have EU := hid eu; clear eu
  obtain ⟨t, et, t0, t1⟩ := modu1 tm 5 (by omega) (by omega)
  have ET := hid et; clear et
  obtain ⟨o, eo, o0, o1⟩ := modo20 ov u u0 u1
  have EO := hid eo; clear eo
  have F := hid (facts o u)
  have H2 := hid (tab_times o u t (by omega))
  obtain ⟨l, hl⟩ : ∃ l, tab o u = l := ⟨_, rfl⟩
  rw [hl] at F H2
  have HL := hid hl
  clear hl
  obtain ⟨n, hn⟩ : ∃ n, l.length = n := ⟨_, rfl⟩
  have n8 : n ≤ 8 := by have := F.out.eight; omega
  have HN := hid hn
  clear hn
  have a0 : 0 ≤ o * t := Int.mul_nonneg (by omega) (by omega)
  have a1 : o * t ≤ 400 := by have := Int.mul_le_mul (show o ≤ 80 by omega) t1 (by omega) (by omega); omega
  have b0 : 1 ≤ u * t := by have := Int.mul_le_mul u0 t0 (by omega) (by omega); omega
  have b1 : u * t ≤ 100 := by have := Int.mul_le_mul u1 t1 (by omega) (by omega); omega
  have b2 : u * t < o * t := Int.mul_lt_mul_of_pos_right o0 (by omega)
  have b3 : o * t ≤ 4 * (u * t) := by have := Int.mul_le_mul_of_nonneg_right o1 (show 0 ≤ t by omega); rw [Int.mul_assoc] at this; exact this
  have B := hid (show 1 ≤ u * t ∧ u * t ≤ 100 ∧ u * t < o * t ∧ o * t ≤ 4 * (u * t) from ⟨b0, b1, b2, b3⟩)
  clear b2 b3
  go_enter Try.func9, Try.ntmps9
  go_wp2_with fail
  refine (works_any _).mono ?_; rintro e w1 ⟨rfl, hb⟩
  have B1 := hid hb
  clear hb
  go_upto_region 4 with fail
  rw [EU.out, ET.out]
  go_wp2_with fail
  rw [EO.out]
  refine (table_reads o u l n _ u0 (by omega) o0 o1 HL.out HN.out).mono ?_; rintro e w2 ⟨g, c, rfl, hl2, hb2⟩
  have B2 := hid (B1.out.trans (hb2.mono B1.out.size))
  have L2 := hid hl2
  clear hl2 hb2
  go_wp2_with fail
  refine (table_reads (o * t) (u * t) l n _ B.out.1 B.out.2.1 B.out.2.2.1 B.out.2.2.2 H2.out HN.out).mono ?_; rintro e w3 ⟨g', c', rfl, hl3, hb3⟩
  have B3 := hid (B2.out.trans (hb3.mono B2.out.size))
  have L3 := hid hl3
  have L2' := hid (L2.out.below hb3)
  clear hl3 hb3
  go_wp2_with fail
  refine (same_any _ _ _ _ _ _ l l _ L2'.out L3.out (by omega) (by omega)).mono ?_
  rintro e w' ⟨rfl, m, rfl⟩
  rw [decide_eq_true rfl]
  go_wp2_with fail
  go_ret
  exact ⟨rfl, Below.drewN' B3.out _⟩
end Go.Proofs.Ytnfglonkbhcjgaa.Cs
