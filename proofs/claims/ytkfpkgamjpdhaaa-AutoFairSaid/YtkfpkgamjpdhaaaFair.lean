/- AutoFair, walked. Conditions: those that the contract names. -/
import Derived.Test.YtkfpkgamjpdhaaaFairMem
import Derived.Test.YtkfpkgamjpdhaaaWorks
namespace Go.Proofs.Ytkfpkgamjpdhaaa.Au
open Go.RowKit
set_option linter.unusedVariables false
set_option linter.unusedSimpArgs false
set_option maxRecDepth 100000 in
set_option maxHeartbeats 4000000 in
theorem fair_law (A : Option Addr) (n c : Nat) (w : World) (hl : IsRows w A n) (hn : n ≤ 9223372036854775807) :
    Calls Try.prog 4 #[.slice A n c] w fun e w' => e = .returned (.bool true) ∧ Below w.heap.size w w' := by
  have HL := hid hl
  clear hl
  go_enter Try.func4, Try.ntmps4
  go_wp2_with fail
  refine (works_any _).mono ?_; rintro e w0 ⟨rfl, hb⟩
  have B0 := hid hb
  have hs0 := hb.size
  clear hb
  go_wp2_with fail
  refine (new_ok 3 _ (by omega) (by omega)).mono ?_
  rintro e w1 ⟨rfl, hs, hb⟩
  have hp1 : w0.heap.size < w1.heap.size := (SawS.new hs).lt
  have F1 := hid (Fair.start (W := w) (base := w1.heap.size) (SawS.new hs) hp1 hs0 (B0.out.trans (hb.mono hs0)) (Nat.le_refl _))
  clear hs hb
  go_wp2_with fail
  go_loopw [5, 6] (fun ov iv wr => ∃ (k : Nat) (L : List (Value × List Vw)) (S : Option Addr), k ≤ n ∧ k ≤ 40 ∧ iv = .int .i64 k ∧ L.length ≤ k ∧ Fair w w0.heap.size w1.heap.size ov L (last3 (L.map (·.2))) S wr) (fun _ iv _ => n - (intOf iv).toNat)
  case atStart =>
    exact ⟨0, [], none, by omega, by omega, rfl, Nat.le_refl _, F1.out⟩
  case round =>
    obtain ⟨k, L, S, hk, hk40, rfl, hL, hF⟩ := hrel
    have F := hid hF
    clear hF
    by_cases hlt : k < n
    · by_cases h3 : k < 40
      · obtain ⟨b, off, hA, hbl, hc⟩ : ∃ b off, A = some ⟨b, off, none⟩ ∧ b < w.heap.size ∧ ∀ i, i < n → ∃ A' n' c' vs, w.cell? ⟨b, off + i, none⟩ = some (.slice A' n' c') ∧ IsViews w A' n' vs ∧ n' ≤ 9223372036854775807 := by
          rcases HL.out with h0 | h
          · omega
          · exact h
        subst hA
        obtain ⟨A', n', c', vs, hcell, hvs, hn'⟩ := hc k hlt
        have q := (F.out.below.cell (p := ⟨b, off + k, none⟩) hbl).trans hcell
        have Q := hid hcell
        have VV := hid hvs
        have hkI : (k : Int) < 40 := by omega
        clear hc hcell hvs
        by_cases h2 : n' = 3
        · subst h2
          go_wp2_with fail
          refine (to_t _ 3 c' vs _ ?_ (by omega)).mono ?_
          · exact VV.out.below F.out.below
          rintro e w6 ⟨v, rfl, ho6, hb6⟩
          obtain ⟨A6, cap6, rfl, V6'⟩ := ho6.form'
          rw [VV.out.1] at V6' ⊢
          have V6 := hid V6'
          have F6 := hid (F.out.under hb6)
          clear ho6 hb6 V6' q
          go_wp2_with fail
          by_cases hok : vs.all okV = true
          · have HOK := hid hok
            clear hok
            refine (see_ss _ 3 (last3 (L.map (·.2))) S _ _ vs _ ?_ ?_ (by omega) HOK.out).mono ?_
            · exact F6.out.saw
            · exact V6.out
            rintro e w7 ⟨rfl, ⟨S7, hs7, hS7⟩, hp7⟩
            rw [last3_last3] at hs7
            have F7 := hid (F6.out.see hp7 hs7 hS7)
            clear hs7 hS7 hp7
            have q7 := (F7.out.below.cell (p := ⟨b, off + k, none⟩) hbl).trans Q.out
            have hk7 := F7.out.size
            go_wp2_with (at_builtin; refine wpList_appL rfl (.tmp 47) (.tmp 52) rfl w1.heap.size _ L.length (L.map (·.1)) rfl ?own w7.heap.size A' 3 c' rfl (heap_alloc_at _ _) ?few ?base ?go)
            case own => exact (F7.out.under ((Below.refl _ _).alloc (Nat.le_refl _) _)).own
            case few => omega
            case base => simp; omega
            case go =>
              intro g8 cap8 w8 ho8 hg8 hat8
              have hF8 := (F7.out.under ((Below.refl _ _).alloc (Nat.le_refl _) (.cells #[.slice A' 3 c'] 31))).app hg8 (by simpa using hat8) ho8 VV.out
              obtain ⟨L2, hL2⟩ : ∃ L2, L ++ [(Value.slice A' 3 c', vs)] = L2 := ⟨_, rfl⟩
              have e2 : L2.map (·.2) = L.map (·.2) ++ [vs] := by rw [← hL2]; simp
              obtain ⟨m, hm⟩ : ∃ m, L.length + 1 = m := ⟨_, rfl⟩
              have hm2 : L2.length = m := by rw [← hL2, ← hm]; simp
              rw [hL2, ← e2, hm] at hF8
              rw [hm]
              have F8 := hid hF8
              have M2 := hid hm2
              have hl3 : (last3 (L2.map (·.2))).length = m - (m - 3) := by simp [last3, hm2]
              have HL3 := hid hl3
              have hmk : m ≤ k + 1 := by omega
              clear ho8 hg8 hat8 hF8 hL2 e2 hm hm2 q7 hk7 F7 hl3
              go_wp2_with fail
              by_cases hm3 : m < 3
              · refine (decide_ss_less _ 3 (last3 (L2.map (·.2))) S7 _ ?_ (by rw [HL3.out]; omega)).mono ?_
                · exact F8.out.saw
                rintro e w' ⟨rfl, rfl⟩
                go_wp2_with fail
                go_roundw
                case rel =>
                  exact ⟨k + 1, L2, S7, by omega, by omega, by go_num, by rw [M2.out]; omega, F8.out⟩
                case measure => simp [intOf]; omega
              · have h33 : (last3 (L2.map (·.2))).length = 3 := by rw [HL3.out]; omega
                have H33 := hid h33
                clear h33
                have hor : (∃ xn yn : Nat, Fairly (last3 (L2.map (·.2))) xn yn ∧ Calls Try.prog 13 #[.pointer (some ⟨w0.heap.size, 0, none⟩)] w8 fun e w' => e = .returned (.tuple #[.int .i64 xn, .int .i64 yn, .bool true]) ∧ SawS w' w0.heap.size 3 [] none ∧ Only w0.heap.size w8 w') ∨
                    (Calls Try.prog 13 #[.pointer (some ⟨w0.heap.size, 0, none⟩)] w8 fun e w' => e = .returned (.tuple #[.int .i64 0, .int .i64 0, .bool false]) ∧ Below w8.heap.size w8 w') := by
                  by_cases hxy : 0 ≤ (decV (last3 (L2.map (·.2))) 3).1 ∧ 0 ≤ (decV (last3 (L2.map (·.2))) 3).2.1
                  · exact .inl (decide_fair F8.out.saw H33.out hxy)
                  · exact .inr (decide_unfair F8.out.saw H33.out hxy)
                rcases hor with ⟨xn, yn, hfr, hcall⟩ | hcall
                · have FR := hid hfr
                  clear hfr
                  refine hcall.mono ?_
                  clear hcall
                  rintro e w9 ⟨rfl, hs9, hp9⟩
                  have F9 := hid (F8.out.only hp9 hs9)
                  clear hs9 hp9
                  obtain ⟨j, rfl⟩ : ∃ j, m = j + 3 := ⟨m - 3, by omega⟩
                  have hrow : ∀ i, i < 3 → ∃ b off c, w9.cell? ⟨g8, j + i, none⟩ = some (.slice (some ⟨b, off, none⟩) 3 c) ∧ ∀ r, r < 3 → w9.cell? ⟨b, off + r * 3, none⟩ = some (.int .i64 (((last3 (L2.map (·.2))).getD i []).getD r (0, 0, 0)).1) ∧ w9.cell? ⟨b, off + r * 3 + 1, none⟩ = some (.int .i64 (((last3 (L2.map (·.2))).getD i []).getD r (0, 0, 0)).2.1) := by
                    intro i hi
                    have := F9.out.at (j + i) (by rw [M2.out]; omega)
                    rw [getD_last3, List.length_map, M2.out, show j + 3 - 3 + i = j + i by omega]
                    exact this
                  have HR := hid hrow
                  clear hrow
                  obtain ⟨hx3, hy3, hxy, hpg, hev⟩ := FR.out
                  obtain ⟨b2, off2, c2, hc2, hd2⟩ := HR.out 2 (by omega)
                  have hd := (hd2 xn hx3).2
                  obtain ⟨pg, hpg'⟩ : ∃ z, (((last3 (L2.map (·.2))).getD 2 []).getD xn (0, 0, 0)).2.1 = z := ⟨_, rfl⟩
                  rw [hpg'] at hd hpg
                  have HEV := hid hev
                  clear hpg' hd2 hev
                  have i1 : (xn : Int) < 3 := by omega
                  have i2 : (yn : Int) < 3 := by omega
                  have i3 : ((xn : Int) == yn) = false := by first | (simp; done) | (simp; omega)
                  have i4 : (xn == yn) = false := by simp [hxy]
                  have i5 : decide (2 < (xn : Int)) = false := by simp; omega
                  have i6 : decide (2 < (yn : Int)) = false := by simp; omega
                  have i7 : decide (pg < 2) = false := by simp; omega
                  have HXY := hid hxy
                  clear hxy hm3
                  go_upto_region 15 with fail
                  go_cut [11] (fun v wx => v = .int .i64 j ∧ w9 = wx)
                  case first =>
                    go_wp2_with fail
                    go_meet
                    exact ⟨by go_num, rfl⟩
                  case rest =>
                    obtain ⟨rfl, rfl⟩ := hcut
                    clear i3 i4 i5 i6 i7 hc2 hd hpg
                    go_wp2_with fail
                    go_loop [11] (fun i => ∃ t : Nat, j ≤ t ∧ t ≤ j + 3 ∧ i = .int .i64 t) (fun i => j + 3 - (intOf i).toNat)
                    case atStart => exact ⟨j, by omega, by omega, rfl⟩
                    case round =>
                      obtain ⟨t, ht1, ht2, rfl⟩ := hrel
                      by_cases ht : t < j + 3
                      · have t1 : decide ((t : Int) < j + 3) = true := by simp; omega
                        have t2 : (t : Int) < j + 3 := by omega
                        obtain ⟨bt, offt, ct, hct, hdt⟩ := HR.out (t - j) (by omega)
                        rw [show j + (t - j) = t by omega] at hct
                        have hx := (hdt xn hx3).1
                        have hy := (hdt yn hy3).1
                        obtain ⟨e1, e2⟩ := HEV.out (t - j) (by omega)
                        rw [e1] at hx
                        obtain ⟨ey, hey⟩ : ∃ z, (((last3 (L2.map (·.2))).getD (t - j) []).getD yn (0, 0, 0)).1 = z := ⟨_, rfl⟩
                        rw [hey] at hy e2
                        have t3 : (ey == 0) = false := by simp; omega
                        have t4 : ¬ ey = 0 := by omega
                        clear hdt e1 hey
                        go_wp2_with fail
                        go_round
                        case rel => exact ⟨t + 1, by omega, by omega, by go_num⟩
                        case measure => simp [intOf]; omega
                      · obtain rfl : t = j + 3 := by omega
                        clear ht ht1 ht2
                        go_wp2_with fail
                        refine (decide_ss_less _ 3 [] none _ ?_ (by decide)).mono ?_
                        · exact F9.out.saw
                        rintro e w' ⟨rfl, rfl⟩
                        go_wp2_with fail
                        refine (seen_ss _ 3 [] none _ ?_).mono ?_
                        · exact F9.out.saw
                        rintro e w' ⟨rfl, rfl⟩
                        go_wp2_with fail
                        go_roundw
                        case rel =>
                          exact ⟨k + 1, [], none, by omega, by omega, by go_num, Nat.zero_le _, Fair.start F9.out.saw F9.out.pb F9.out.wb F9.out.below F9.out.size⟩
                        case measure => simp [intOf]; omega
                · refine hcall.mono ?_
                  clear hcall
                  rintro e w9 ⟨rfl, hb9⟩
                  have F9 := hid (F8.out.under hb9)
                  clear hb9
                  go_wp2_with fail
                  go_roundw
                  case rel =>
                    exact ⟨k + 1, L2, S7, by omega, by omega, by go_num, by rw [M2.out]; omega, F9.out⟩
                  case measure => simp [intOf]; omega
          · have hok' : vs.all okV = false := by simpa using hok
            have HOK := hid hok'
            clear hok hok'
            refine (see_ss_bad _ 3 (last3 (L.map (·.2))) S _ _ vs _ ?_ ?_ (by omega) HOK.out).mono ?_
            · exact F6.out.saw
            · exact V6.out
            rintro e w7 ⟨rfl, hb7⟩
            have F7 := hid (F6.out.under hb7)
            clear hb7
            go_wp2_with fail
            go_roundw
            case rel =>
              exact ⟨k + 1, L, S, by omega, by omega, by go_num, by omega, F7.out⟩
            case measure => simp [intOf]; omega
        · have n1 : ((n' : Int) != 3) = true := by simp; omega
          have n2 : (n' != 3) = true := by simp [h2]
          have n3 : (n' == 3) = false := by simp [h2]
          clear h2
          go_wp2_with fail
          go_roundw
          case rel =>
            exact ⟨k + 1, L, S, by omega, by omega, by go_num, by omega, F.out⟩
          case measure => simp [intOf]; omega
      · obtain rfl : k = 40 := by omega
        clear h3 hk40
        go_wp2_with fail
        go_ret
        exact ⟨rfl, F.out.below⟩
    · obtain rfl : k = n := by omega
      clear hlt hk
      go_wp2_with fail
      go_ret
      exact ⟨rfl, F.out.below⟩
end Go.Proofs.Ytkfpkgamjpdhaaa.Au
