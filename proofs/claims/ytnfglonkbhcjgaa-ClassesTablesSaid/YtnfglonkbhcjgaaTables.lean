/- ClassesTables: for every over and under the program's table is the document's, or both refuse. No condition. -/
import Derived.Test.YtnfglonkbhcjgaaWorks
import Derived.Test.YtnfglonkbhcjgaaFacts
namespace Go.Proofs.Ytnfglonkbhcjgaa.Cs
open Go.RowKit
set_option linter.unusedVariables false
set_option linter.unusedSimpArgs false
theorem rtable_no (o u : Int) (w : World) (h : u < 1 ∨ 100 < u ∨ o ≤ u ∨ 4 * u < o) :
    Calls Try.prog 11 #[.int .i64 o, .int .i64 u] w fun e w' => e = .returned (.tuple #[.slice none 0 0, .int .i64 1]) ∧ w = w' := by
  by_cases h1 : u < 1
  · clear h
    go_enter Try.func11, Try.ntmps11
    go_wp2_with fail
    go_ret2
    exact ⟨rfl, rfl⟩
  · by_cases h2 : 100 < u
    · clear h
      go_enter Try.func11, Try.ntmps11
      go_wp2_with fail
      go_ret2
      exact ⟨rfl, rfl⟩
    · have h5 : 4 * u ≤ 400 := by omega
      have h6 : 0 ≤ 4 * u := by omega
      by_cases h3 : o ≤ u
      · clear h
        go_enter Try.func11, Try.ntmps11
        go_wp2_with fail
        go_ret2
        exact ⟨rfl, rfl⟩
      · have h4 : 4 * u < o := by omega
        clear h
        go_enter Try.func11, Try.ntmps11
        go_wp2_with fail
        go_ret2
        exact ⟨rfl, rfl⟩

set_option maxHeartbeats 1000000 in
theorem rtable_yes (o u : Int) (w : World) (h1 : 1 ≤ u) (h2 : u ≤ 100) (h3 : u < o) (h4 : o ≤ 4 * u):
    Calls Try.prog 11 #[.int .i64 o, .int .i64 u] w fun e w' => ∃ v, e = .returned (.tuple #[v, .int .i64 0]) ∧ OwnInts w' w.heap.size v (tab o u) ∧ Below w.heap.size w w' := by
  have h5 : 4 * u ≤ 400 := by omega
  have h6 : o ≤ 400 := by omega
  go_enter Try.func11, Try.ntmps11
  go_wp2_with fail
  go_loopw [6] (fun v wr => ∃ (j : Nat) (t : Int) (g c : Nat) (acc : List Int), j ≤ 6 ∧ acc.length = j ∧ acc ++ fill o u (7 - j) t = fill o u 7 64 ∧ v = .slice (some ⟨g, 0, none⟩) (j + 1) c ∧ 64 ≤ t ∧ t ≤ 512 ∧ wr.ownsRow w.heap.size 3 1 (.slice (some ⟨g, 0, none⟩) (j + 1) c) (j + 1) (nums (acc ++ [t])) ∧ Below w.heap.size w wr) (fun v _ => 8 - lenOf v)
  case atStart =>
    refine ⟨0, 64, w.heap.size, 1, [], by omega, rfl, rfl, rfl, by omega, by omega, ⟨rfl, .inr ⟨w.heap.size, 1, #[.int .i64 64], rfl, Nat.le_refl _, heap_alloc_at _ _, Nat.le_refl _, by decide, rfl, rfl⟩⟩, (Below.refl _ _).alloc (Nat.le_refl _) _⟩
  case round =>
    obtain ⟨j, t, g, c, acc, hj, hlen, hfill, rfl, t0, t1, ho, hb⟩ := hrel
    have hsz := hb.size
    have hcell : wr.cell? ⟨g, j, none⟩ = some (.int .i64 t) := by
      rcases own_reads (zs := acc ++ [t]) (by simp [hlen]) ho with ⟨_, h | ⟨b, off, hg, _, h⟩⟩
      · omega
      · cases hg
        have := h j (by omega)
        rw [Nat.zero_add] at this
        rw [this, ← hlen]
        simp
    have HL := hid hlen
    have HF := hid hfill
    clear hlen hfill
    by_cases h7 : j = 6
    · have hT : acc ++ [t] ++ [1024] = tab o u := by
        have h := HF.out
        rw [h7, fill_last] at h
        rw [h]; rfl
      have hTl : (tab o u).length = j + 2 := by rw [← hT]; simp [HL.out]
      have HT := hid hT
      have HTl := hid hTl
      have hb7 : decide (((j : Int) + 1) < 7) = false := by simp; omega
      clear hT hTl h7
      go_wp2_with (at_builtin; refine app1 rfl _ _ rfl w.heap.size _ (j + 1) (acc ++ [t]) rfl (ho.alloc _) wr.heap.size 1024 rfl (by go_simp) (by omega) (by simp; omega) w (hb.alloc hsz _) ?_; intro g2 c2 w2 hsz2 ho2 hb2)
      go_ret2
      rw [HT.out] at ho2
      refine ⟨_, rfl, ⟨g2, c2, by rw [HTl.out]; rfl, ?_, by rw [HTl.out]; exact ho2⟩, hb2⟩
      obtain ⟨_, h | ⟨g3, _, _, h3, h4, _⟩⟩ := ho2
      · cases h.1
      · cases h3; exact h4
    · have hb7 : decide (((j : Int) + 1) < 7) = true := by simp; omega
      have hj5 : j ≤ 5 := by omega
      clear h7
      have b1 : t * o ≤ 204800 := by
        have := Int.mul_le_mul t1 h6 (by omega) (by omega)
        omega
      have b0 : 0 ≤ t * o := Int.mul_nonneg (by omega) (by omega)
      have q0 : 0 ≤ t * o / u := Int.ediv_nonneg b0 (by omega)
      have q1 : t * o / u ≤ 2048 := by
        have h : t * o ≤ t * (4 * u) := Int.mul_le_mul_of_nonneg_left h4 (by omega)
        have h' : t * o / u ≤ t * 4 := Int.ediv_le_of_le_mul (by omega) (by rw [Int.mul_assoc]; exact h)
        omega
      go_wp2_with fail
      have e0 : nextS o u t = if (t * o / u + 7) / 8 * 8 < t + 8 then t + 8 else (t * o / u + 7) / 8 * 8 := rfl
      have r0 : t * o / u ≤ (t * o / u + 7) / 8 * 8 := by omega
      have r1 : (t * o / u + 7) / 8 * 8 ≤ 2056 := by omega
      have r2 : ∀ x, t * o / u ≤ x → x ≤ (t * o / u + 7) / 8 * 8 → (x % 8 = 0 → x = (t * o / u + 7) / 8 * 8) ∧ (x % 8 ≠ 0 → x + 1 ≤ (t * o / u + 7) / 8 * 8) := by intro x h1 h2; omega
      have E0 := hid e0
      have R2 := hid r2
      clear e0 r2 b0 b1
      obtain ⟨r, hr⟩ : ∃ r, (t * o / u + 7) / 8 * 8 = r := ⟨_, rfl⟩
      rw [hr] at r0 r1 E0 R2
      clear hr
      generalize t * o / u = q at *
      go_loop [8] (fun v => ∃ x : Int, v = .int .i64 x ∧ q ≤ x ∧ x ≤ r) (fun v => (r - intOf v).toNat)
      case atStart => exact ⟨q, rfl, by omega, by omega⟩
      case round =>
        obtain ⟨x, rfl, x0, x1⟩ := hrel
        have xx := R2.out x x0 x1
        by_cases h8 : x % 8 = 0
        · have hx := xx.1 h8
          subst hx
          have hb8 : (x % 8 != 0) = false := by simp; omega
          have hn0 : t + 8 ≤ nextS o u t := by rw [E0.out]; split <;> omega
          have hn1 : nextS o u t ≤ 2056 := by rw [E0.out]; split <;> omega
          have e1 := E0.out.symm
          obtain ⟨t', hN⟩ : ∃ t', nextS o u t = t' := ⟨_, rfl⟩
          rw [hN] at e1 hn0 hn1
          have HN := hid hN
          clear hN xx h8
          go_upto_region 10 with fail
          clear e1
          by_cases hs : 512 < t'
          · have hT : acc ++ [t] ++ [1024] = tab o u := by
              have h := HF.out
              obtain ⟨i, hi⟩ : ∃ i, 7 - j = i + 1 := ⟨6 - j, by omega⟩
              rw [hi, fill_stop o u t i (by rw [HN.out]; exact hs)] at h
              rw [h]; rfl
            have hTl : (tab o u).length = j + 2 := by rw [← hT]; simp [HL.out]
            have HT := hid hT
            have HTl := hid hTl
            clear hT hTl
            go_wp2_with (at_builtin; refine app1 rfl _ _ rfl w.heap.size _ (j + 1) (acc ++ [t]) rfl (ho.alloc _) wr.heap.size 1024 rfl (by go_simp) (by omega) (by simp; omega) w (hb.alloc hsz _) ?_; intro g2 c2 w2 hsz2 ho2 hb2)
            go_ret2
            rw [HT.out] at ho2
            refine ⟨_, rfl, ⟨g2, c2, by rw [HTl.out]; rfl, ?_, by rw [HTl.out]; exact ho2⟩, hb2⟩
            obtain ⟨_, h | ⟨g3, _, _, h3, h4, _⟩⟩ := ho2
            · cases h.1
            · cases h3; exact h4
          · go_wp2_with (at_builtin; refine app1 rfl _ _ rfl w.heap.size _ (j + 1) (acc ++ [t]) rfl (ho.alloc _) wr.heap.size t' rfl (by go_simp) (by omega) (by simp; omega) w (hb.alloc hsz _) ?_; intro g2 c2 w2 hsz2 ho2 hb2)
            go_roundw
            case rel =>
              refine ⟨j + 1, t', g2, c2, acc ++ [t], by omega, by simp [HL.out], ?_, rfl, by omega, by omega, ho2, hb2⟩
              have h := HF.out
              obtain ⟨i, hi⟩ : ∃ i, 7 - j = i + 1 := ⟨6 - j, by omega⟩
              rw [hi, fill_next o u t i (by rw [HN.out]; exact hs), HN.out] at h
              rw [show 7 - (j + 1) = i from by omega, List.append_assoc]
              exact h
            case measure => simp [lenOf]; omega
        · have hx := xx.2 h8
          have hb8 : (x % 8 != 0) = true := by simp; omega
          clear xx h8
          go_wp2_with fail
          go_round
          case rel => exact ⟨x + 1, rfl, by omega, by omega⟩
          case measure => simp [intOf]; omega

theorem rtable_reads (o u : Int) (zs : List Int) (n : Nat) (w : World) (h1 : 1 ≤ u) (h2 : u ≤ 100) (h3 : u < o) (h4 : o ≤ 4 * u) (hz : tab o u = zs) (hn : zs.length = n) :
    Calls Try.prog 11 #[.int .i64 o, .int .i64 u] w fun e w' => ∃ g c, e = .returned (.tuple #[.slice (some ⟨g, 0, none⟩) n c, .int .i64 0]) ∧ IsInts w' (some ⟨g, 0, none⟩) n zs ∧ Below w.heap.size w w' := by
  refine (rtable_yes o u w h1 h2 h3 h4).mono ?_
  rintro e w' ⟨v, rfl, ⟨g, c, rfl, hg, ho⟩, hb⟩
  rw [hz, hn] at ho
  exact ⟨g, c, by rw [hz, hn], own_reads hn ho, hb⟩
theorem tables_law (o u : Int) (w : World) :
    Calls Try.prog 3 #[.int .i64 o, .int .i64 u] w fun e w' => e = .returned (.bool true) ∧ Below w.heap.size w w' := by
  by_cases h : u < 1 ∨ 100 < u ∨ o ≤ u ∨ 4 * u < o
  · have H := hid h
    clear h
    go_enter Try.func3, Try.ntmps3
    go_wp2_with fail
    refine (table_no o u _ H.out).mono ?_; rintro e w' ⟨rfl, rfl⟩
    go_wp2_with fail
    refine (rtable_no o u _ H.out).mono ?_; rintro e w' ⟨rfl, rfl⟩
    go_wp2_with fail
    refine (same_any _ _ _ _ _ _ [] [] _ (IsInts.nil _) (IsInts.nil _) (by omega) (by omega)).mono ?_
    rintro e w' ⟨rfl, m, rfl⟩
    rw [decide_eq_true rfl]
    go_wp2_with fail
    go_ret
    exact ⟨rfl, Below.drewN' (Below.refl _ _) _⟩
  · have H := hid (show 1 ≤ u ∧ u ≤ 100 ∧ u < o ∧ o ≤ 4 * u by omega)
    clear h
    obtain ⟨l, hl⟩ : ∃ l, tab o u = l := ⟨_, rfl⟩
    obtain ⟨n, hn⟩ : ∃ n, l.length = n := ⟨_, rfl⟩
    have n8 : n ≤ 8 := by
      have h := fill_le o u 7 64
      rw [← hn, ← hl]; unfold tab; simp; omega
    have HL := hid hl
    have HN := hid hn
    clear hl hn
    go_enter Try.func3, Try.ntmps3
    go_wp2_with fail
    refine (table_reads o u l n _ H.out.1 H.out.2.1 H.out.2.2.1 H.out.2.2.2 HL.out HN.out).mono ?_; rintro e w2 ⟨g, c, rfl, hl2, hb2⟩
    have L2 := hid hl2
    have B2 := hid hb2
    clear hl2 hb2
    go_wp2_with fail
    refine (rtable_reads o u l n _ H.out.1 H.out.2.1 H.out.2.2.1 H.out.2.2.2 HL.out HN.out).mono ?_; rintro e w3 ⟨g', c', rfl, hl3, hb3⟩
    have L3 := hid hl3
    have L2' := hid (L2.out.below hb3)
    have B3 := hid (B2.out.trans (hb3.mono B2.out.size))
    clear hl3 hb3
    go_wp2_with fail
    refine (same_any _ _ _ _ _ _ l l _ L2'.out L3.out (by omega) (by omega)).mono ?_
    rintro e w' ⟨rfl, m, rfl⟩
    rw [decide_eq_true rfl]
    go_wp2_with fail
    go_ret
    exact ⟨rfl, Below.drewN' B3.out _⟩
end Go.Proofs.Ytnfglonkbhcjgaa.Cs
