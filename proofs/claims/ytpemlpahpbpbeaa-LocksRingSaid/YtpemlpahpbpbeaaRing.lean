/- LocksRing: whatever was tried and freed, each lock has one holder at most, and who holds the greatest can take each greater one. No condition. -/
import Derived.Test.YtpemlpahpbpbeaaCount
import Derived.Deep.CutBlock
namespace Go.Proofs.Ytpemlpahpbpbeaa.Lk
open Go.RowKit
set_option linter.unusedVariables false
set_option linter.unusedSimpArgs false
def Sole (W : World) (p : Nat) (wr : World) : Prop := ∃ bs, bs.length = 5 ∧ Small bs ∧ Five 48 wr p bs ∧ Below W.heap.size W wr ∧ W.heap.size ≤ p
theorem small_none : Small noneHeld := by
  intro i hi
  match i, hi with
  | 0, _ => decide
  | 1, _ => decide
  | 2, _ => decide
  | 3, _ => decide
  | 4, _ => decide
/-- These five, and nothing from outside the call has turned. -/
def With (W : World) (p : Nat) (bs : List Int) (wr : World) : Prop := Five 48 wr p bs ∧ Below W.heap.size W wr
set_option maxRecDepth 100000 in
set_option maxHeartbeats 4000000 in
theorem ring_law (A : Option Addr) (n c : Nat) (w : World) (hl : IsOps w A n) (hn : n ≤ 9223372036854775807) :
    Calls Try.prog 4 #[.slice A n c] w fun e w' => e = .returned (.bool true) ∧ Below w.heap.size w w' := by
  have HL := hid hl
  clear hl
  go_enter Try.func4, Try.ntmps4
  go_wp2_with fail
  refine (works_any _).mono ?_; rintro e w0 ⟨rfl, hb⟩
  have B0 := hid hb
  have hs0 := hb.size
  clear hb
  go_wp2_with fail
  refine (new_any _).mono ?_; rintro e w1 ⟨rfl, hf, hb⟩
  have F1 := hid hf
  have B1 := hid hb
  have hs1 := hb.size
  have hp1 := hf.lt
  clear hf hb
  go_upto_block 0 with fail
  go_cut [] (fun wx => Sole w w0.heap.size wx)
  case first =>
    go_wp2_with fail
    go_loopw [4] (fun i wr => ∃ k : Nat, k ≤ n ∧ i = .int .i64 k ∧ Sole w w0.heap.size wr) (fun i _ => n - (intOf i).toNat)
    case atStart =>
      refine ⟨0, by omega, rfl, noneHeld, rfl, small_none, F1.out, B0.out.trans (B1.out.mono hs0), hs0⟩
    case round =>
      obtain ⟨k, hk, rfl, bs, h5, hsm, hf, hb, hp⟩ := hrel
      have H5 := hid h5
      have SM := hid hsm
      have F := hid hf
      have B := hid hb
      have hsz := hb.size
      have hflt := hf.lt
      clear h5 hsm hf hb
      by_cases hlt : k < n
      · by_cases h100 : k < 100
        · obtain ⟨b, off, hA, hbl, hc⟩ : ∃ b off, A = some ⟨b, off, none⟩ ∧ b < w.heap.size ∧ ∀ i, i < n → ∃ x y z : Int, w.cell? ⟨b, off + i * 3, none⟩ = some (.int .i64 x) ∧ w.cell? ⟨b, off + i * 3 + 1, none⟩ = some (.int .i64 y) ∧ w.cell? ⟨b, off + i * 3 + 2, none⟩ = some (.int .i64 z) := by
            rcases HL.out with h0 | h
            · omega
            · exact h
          subst hA
          obtain ⟨x, y, z, cx, cy, cz⟩ := hc k hlt
          have dx : wr.cell? ⟨b, off + k * 3, none⟩ = some (.int .i64 x) := (B.out.cell (p := ⟨b, off + k * 3, none⟩) hbl).trans cx
          have dy : wr.cell? ⟨b, off + k * 3 + 1, none⟩ = some (.int .i64 y) := (B.out.cell (p := ⟨b, off + k * 3 + 1, none⟩) hbl).trans cy
          have dz : wr.cell? ⟨b, off + k * 3 + 2, none⟩ = some (.int .i64 z) := (B.out.cell (p := ⟨b, off + k * 3 + 2, none⟩) hbl).trans cz
          clear hc cx cy cz
          obtain ⟨y', ey, y0, y1⟩ := modu y 16 (by omega) (by omega)
          have EY := hid ey; clear ey
          obtain ⟨z', ez, z0, z1⟩ := modu z 5 (by omega) (by omega)
          have EZ := hid ez; clear ez
          go_upto_region 8 with fail
          go_quiet (fail)
          go_upto_block 2 with fail
          rw [EY.out, EZ.out]
          have F2 := hid (((F.out.alloc (.cells #[.int .i64 x, .int .i64 y, .int .i64 z] 30)).drewN nq))
          have B2 := hid (Below.drewN' (B.out.alloc hsz (.cells #[.int .i64 x, .int .i64 y, .int .i64 z] 30)) nq)
          clear dx dy dz
          go_cut [] (fun wx => Sole w w0.heap.size wx)
          case first =>
            by_cases h0 : x = 0
            · have hb0 : (x == 0) = true := by simp [h0]
              clear h0
              go_wp2_with fail
              refine (try_any' _ bs y' z' _ ?_).mono ?_
              · exact F2.out
              rintro e w2 ⟨rfl, hf2, ho2⟩
              have F3 := hid hf2; have O3 := hid ho2; clear hf2 ho2
              go_wp2_with fail
              go_meet
              exact ⟨_, (SM.out.try H5.out y' z').2, (SM.out.try H5.out y' z').1, F3.out, Only.below B2.out O3.out hp (by simp; omega), hp⟩
            · have hb0 : (x == 0) = false := by simp [h0]
              clear h0
              by_cases h1 : x = 1
              · have hb1 : (x == 1) = true := by simp [h1]
                clear h1
                go_wp2_with fail
                refine (free_any _ bs y' z' _ ?_).mono ?_
                · exact F2.out
                rintro e w2 ⟨rfl, hf2, ho2⟩
                have F3 := hid hf2; have O3 := hid ho2; clear hf2 ho2
                go_wp2_with fail
                go_meet
                exact ⟨_, (SM.out.free H5.out y' z').2, (SM.out.free H5.out y' z').1, F3.out, Only.below B2.out O3.out hp (by simp; omega), hp⟩
              · have hb1 : (x == 1) = false := by simp [h1]
                clear h1
                go_wp2_with fail
                refine (freeall_any _ bs y' _ ?_).mono ?_
                · exact F2.out
                rintro e w2 ⟨rfl, hf2, ho2⟩
                have F3 := hid hf2; have O3 := hid ho2; clear hf2 ho2
                go_wp2_with fail
                go_meet
                exact ⟨_, (SM.out.frees H5.out (heldL bs y')).2, (SM.out.frees H5.out (heldL bs y')).1, F3.out, Only.below B2.out O3.out hp (by simp; omega), hp⟩
          case rest =>
            obtain ⟨bs, h5, hsm, hf, hb, -⟩ := hcut
            have H5 := hid h5
            have SM := hid hsm
            have F := hid hf
            have B := hid hb
            have hsz := hb.size
            have hflt := hf.lt
            clear h5 hsm hf hb F2 B2
            go_upto_block 3 with fail
            go_cut [8] (fun v wx => v = .int .i64 (cnt bs 16) ∧ With w w0.heap.size bs wx)
            case first =>
              go_wp2_with fail
              go_loopw [8, 9] (fun hv jv wx => ∃ j : Nat, j ≤ 16 ∧ jv = .int .i64 j ∧ hv = .int .i64 (cnt bs j) ∧ With w w0.heap.size bs wx) (fun _ jv _ => 16 - (intOf jv).toNat)
              case atStart => exact ⟨0, by omega, rfl, by rw [show cnt bs ((0 : Nat) : Int) = 0 from cnt_zero bs], F.out, B.out⟩
              case round =>
                clear F B hsz hflt
                obtain ⟨j, hj, rfl, rfl, hf, hb⟩ := hrel
                have F := hid hf
                have B := hid hb
                have hsz := hb.size
                have hflt := hf.lt
                clear hf hb
                by_cases hj16 : j < 16
                · have hcr := cnt_range bs j
                  rw [H5.out] at hcr
                  have hst := cnt_step bs j (by omega)
                  have hhe := held_eqs bs j H5.out
                  have ehl : heldL bs j = heldTo bs j 5 := by unfold heldL; rw [if_pos (by omega)]
                  obtain ⟨ct, hct⟩ : ∃ ct, cnt bs j = ct := ⟨_, rfl⟩
                  rw [hct] at hcr hst ⊢
                  obtain ⟨ct0, ct1⟩ := hcr
                  have HST := hid hst
                  have HHE := hid hhe
                  have EHL := hid ehl
                  clear hct hst hhe ehl
                  go_wp2_with fail
                  refine (held_own _ bs j _ ?_).mono ?_
                  · exact F.out
                  rintro e w4 ⟨A2, n2, c2, rfl, hn2, hi2, hb2, -⟩
                  rw [EHL.out] at hi2
                  have I2 := hid hi2
                  have B2 := hid (B.out.trans (hb2.mono hsz))
                  have F2 := hid (F.out.other (hb2.block _ hflt))
                  have N2 := hid hi2.1
                  clear hi2 hb2
                  go_wp2_with fail
                  go_loopw [11] (fun kv wx => ∃ i : Nat, i ≤ n2 ∧ kv = .int .i64 i ∧ With w w0.heap.size bs wx ∧ IsInts wx A2 n2 (heldTo bs j 5)) (fun kv _ => n2 - (intOf kv).toNat)
                  case atStart => exact ⟨0, by omega, rfl, ⟨F2.out, B2.out⟩, I2.out⟩
                  case round =>
                    clear F2 B2 I2
                    obtain ⟨i, hi, rfl, ⟨hf2, hb2⟩, hi2⟩ := hrel
                    have F2 := hid hf2
                    have B2 := hid hb2
                    have I2 := hid hi2
                    clear hf2 hb2 hi2
                    by_cases hi2 : i < n2
                    · obtain ⟨b2, off2, hAe, hb2l, hcc⟩ : ∃ b off, A2 = some ⟨b, off, none⟩ ∧ b < wr.heap.size ∧ ∀ i, i < n2 → wr.cell? ⟨b, off + i, none⟩ = some (.int .i64 ((heldTo bs j 5).getD i 0)) := by
                        rcases I2.out with ⟨_, h0 | h⟩
                        · omega
                        · exact h
                      subst hAe
                      obtain ⟨m, hm5, hmx, hmb⟩ := heldTo_each bs j 5 i (by rw [N2.out]; exact hi2)
                      have ci := hcc i hi2
                      rw [hmx] at ci
                      have ehv : holderV bs m = j := by unfold holderV; rw [if_pos (by omega), Int.toNat_natCast]; exact hmb
                      have EHV := hid ehv
                      have HMX := hid hmx
                      clear ehv hmb hmx
                      cases i with
                      | zero =>
                        clear hcc
                        have hi0 : (0 : Int) < (n2 : Int) := by omega
                        rw [Nat.add_zero] at ci
                        go_wp2_with fail
                        go_quiet ((go_at_call 13; exact Calls.quiet_of_same ((holder_to _ bs m j _ (by exact F2.out.drewN _) EHV.out).mono fun e w' h => ⟨h.1, h.2.symm⟩)))
                        go_wp2_with fail
                        go_roundw
                        case rel => exact ⟨1, by omega, rfl, ⟨F2.out.drewN nq, Below.drewN' B2.out nq⟩, I2.out.drewN nq⟩
                        case measure => simp [intOf]; omega
                      | succ i =>
                        have cj := hcc i (by omega)
                        have hri := heldTo_rise bs j 5 i (by rw [N2.out]; exact hi2)
                        rw [HMX.out] at hri
                        obtain ⟨y2, hy2⟩ : ∃ y2, (heldTo bs j 5).getD i 0 = y2 := ⟨_, rfl⟩
                        rw [hy2] at cj hri
                        clear hcc hy2
                        have hi0 : (i : Int) < (n2 : Int) := by omega
                        have hi1 : (i : Int) + 1 < (n2 : Int) := by omega
                        have hd : decide ((m : Int) ≤ y2) = false := by simp; omega
                        go_wp2_with fail
                        go_quiet ((go_at_call 13; exact Calls.quiet_of_same ((holder_to _ bs m j _ (by exact F2.out.drewN _) EHV.out).mono fun e w' h => ⟨h.1, h.2.symm⟩)))
                        go_wp2_with fail
                        go_roundw
                        case rel => exact ⟨i + 2, by omega, by go_num, ⟨F2.out.drewN nq, Below.drewN' B2.out nq⟩, I2.out.drewN nq⟩
                        case measure => simp [intOf]; omega
                    · obtain rfl : i = n2 := by omega
                      go_wp2_with fail
                      go_roundw
                      case rel => exact ⟨j + 1, by omega, by go_num, by
                        have h1 := HST.out
                        have h2 := HHE.out
                        rw [N2.out] at h2
                        rw [show ((j + 1 : Nat) : Int) = (j : Int) + 1 from by omega, h1]
                        go_num, F2.out, B2.out⟩
                      case measure => simp [intOf]; omega
                · obtain rfl : j = 16 := by omega
                  go_wp2_with fail
                  go_meet
                  exact ⟨rfl, F.out, B.out⟩
            case rest =>
              obtain ⟨rfl, hf, hb⟩ := hcut
              have F := hid hf
              have B := hid hb
              have hsz := hb.size
              clear hf hb
              go_upto_block 7 with fail
              go_cut [8] (fun v wx => v = .int .i64 0 ∧ With w w0.heap.size bs wx)
              case first =>
                go_wp2_with fail
                go_loopw [8, 12] (fun hv jv wx => ∃ j : Nat, j ≤ 5 ∧ jv = .int .i64 j ∧ hv = .int .i64 (cnt bs 16 - poss (bs.take j)) ∧ With w w0.heap.size bs wx) (fun _ jv _ => 5 - (intOf jv).toNat)
                case atStart => exact ⟨0, by omega, rfl, by simp [poss], F.out, B.out⟩
                case round =>
                  clear F B hsz
                  obtain ⟨j, hj, rfl, rfl, hf, hb⟩ := hrel
                  have F := hid hf
                  have B := hid hb
                  clear hf hb
                  by_cases hj5 : j < 5
                  · have hcr := cnt_range bs 16
                    have hpr := poss_range (bs.take j)
                    have hst := poss_snoc bs j (by rw [H5.out]; exact hj5)
                    rw [H5.out] at hcr
                    have hln : (bs.take j).length ≤ 5 := by simp; omega
                    obtain ⟨ct, hct⟩ : ∃ ct, cnt bs 16 = ct := ⟨_, rfl⟩
                    obtain ⟨po, hpo⟩ : ∃ po, poss (bs.take j) = po := ⟨_, rfl⟩
                    rw [hct] at hcr ⊢
                    rw [hpo] at hpr hst ⊢
                    have d0 : -5 ≤ ct - po := by omega
                    have d1 : ct - po ≤ 5 := by omega
                    have ehv : holderV bs j = bs.getD j 0 := by unfold holderV; rw [if_pos (by omega), Int.toNat_natCast]
                    obtain ⟨y2, hy2⟩ : ∃ y2, bs.getD j 0 = y2 := ⟨_, rfl⟩
                    rw [hy2] at hst ehv
                    have HST := hid hst
                    have EHV := hid ehv
                    have HCT := hid hct
                    clear hct hst hpo hcr hpr hln hy2 ehv
                    by_cases hpos : 0 ≤ y2
                    · have e1 : one (0 ≤ y2) = 1 := by unfold one; rw [if_pos hpos]
                      have E1 := hid e1
                      clear e1
                      go_wp2_with fail
                      refine (holder_to _ bs j y2 _ ?_ EHV.out).mono ?_
                      · exact F.out
                      rintro e w' ⟨rfl, rfl⟩
                      go_wp2_with fail
                      go_roundw
                      case rel => exact ⟨j + 1, by omega, by go_num, by rw [HST.out, E1.out]; exact congrArg (Value.int .i64) (by omega), F.out, B.out⟩
                      case measure => simp [intOf]; omega
                    · have e1 : one (0 ≤ y2) = 0 := by unfold one; rw [if_neg hpos]
                      have E1 := hid e1
                      clear e1
                      go_wp2_with fail
                      refine (holder_to _ bs j y2 _ ?_ EHV.out).mono ?_
                      · exact F.out
                      rintro e w' ⟨rfl, rfl⟩
                      go_wp2_with fail
                      go_roundw
                      case rel => exact ⟨j + 1, by omega, by go_num, by rw [HST.out, E1.out]; exact congrArg (Value.int .i64) (by omega), F.out, B.out⟩
                      case measure => simp [intOf]; omega
                  · obtain rfl : j = 5 := by omega
                    have e5 : cnt bs 16 - poss (bs.take 5) = 0 := by rw [List.take_of_length_le (by rw [H5.out]; exact Nat.le_refl _), cnt_all bs (SM.out.mem H5.out)]; omega
                    rw [e5]
                    go_wp2_with fail
                    go_meet
                    exact ⟨rfl, F.out, B.out⟩
              case rest =>
                obtain ⟨rfl, hf, hb⟩ := hcut
                have F := hid hf
                have B := hid hb
                clear hf hb
                go_wp2_with fail
                go_roundw
                case rel => exact ⟨k + 1, by omega, by go_num, bs, H5.out, SM.out, F.out, B.out, hp⟩
                case measure => simp [intOf]; omega
        · go_wp2_with fail
          go_meet
          exact ⟨bs, H5.out, SM.out, F.out, B.out, hp⟩
      · obtain rfl : k = n := by omega
        go_wp2_with fail
        go_meet
        exact ⟨bs, H5.out, SM.out, F.out, B.out, hp⟩
  case rest =>
    obtain ⟨bs, h5, hsm, hf, hb, -⟩ := hcut
    have H5 := hid h5
    have SM := hid hsm
    have F := hid hf
    have B := hid hb
    have hsz := hb.size
    clear h5 hsm hf hb
    go_upto_block 9 with fail
    go_cut [13] (fun tv wx => wc = wx ∧ ∃ tp : Int, tv = .int .i64 tp ∧ -1 ≤ tp ∧ tp < 5 ∧ (0 ≤ tp → 0 ≤ bs.getD tp.toNat 0) ∧ ∀ i : Nat, i < 5 → tp < i → bs.getD i 0 = -1)
    case first =>
      go_wp2_with fail
      go_loop [13, 14] (fun tv kv => ∃ (k : Nat) (tp : Int), k ≤ 5 ∧ kv = .int .i64 k ∧ tv = .int .i64 tp ∧ -1 ≤ tp ∧ tp < k ∧ Hid ((0 ≤ tp → 0 ≤ bs.getD tp.toNat 0) ∧ ∀ i : Nat, i < k → tp < i → bs.getD i 0 = -1)) (fun _ kv => 5 - (intOf kv).toNat)
      case atStart => exact ⟨0, -1, by omega, rfl, rfl, by omega, by omega, hid ⟨fun h => absurd h (by omega), fun i hi => absurd hi (by omega)⟩⟩
      case round =>
        obtain ⟨k, tp, hk, rfl, rfl, t0, t1, HT⟩ := hrel
        by_cases hlt : k < 5
        · have ehv : holderV bs k = bs.getD k 0 := by unfold holderV; rw [if_pos (by omega), Int.toNat_natCast]
          have hsk := SM.out k hlt
          obtain ⟨y2, hy2⟩ : ∃ y2, bs.getD k 0 = y2 := ⟨_, rfl⟩
          rw [hy2] at ehv hsk
          have EHV := hid ehv
          have HY := hid hy2
          clear hy2 ehv
          by_cases hpos : 0 ≤ y2
          · go_wp2_with fail
            refine (holder_to _ bs k y2 _ ?_ EHV.out).mono ?_
            · exact F.out
            rintro e w' ⟨rfl, rfl⟩
            go_wp2_with fail
            go_round
            case rel => exact ⟨k + 1, k, by omega, by go_num, rfl, by omega, by omega, hid ⟨fun _ => by rw [Int.toNat_natCast, HY.out]; exact hpos, fun i hi hki => absurd hki (by omega)⟩⟩
            case measure => simp [intOf]; omega
          · go_wp2_with fail
            refine (holder_to _ bs k y2 _ ?_ EHV.out).mono ?_
            · exact F.out
            rintro e w' ⟨rfl, rfl⟩
            go_wp2_with fail
            go_round
            case rel => exact ⟨k + 1, tp, by omega, by go_num, rfl, by omega, by omega, hid ⟨HT.out.1, fun i hi hki => by
              by_cases e : i = k
              · subst e; rw [HY.out]; omega
              · exact HT.out.2 i (by omega) hki⟩⟩
            case measure => simp [intOf]; omega
        · obtain rfl : k = 5 := by omega
          go_wp2_with fail
          go_meet
          exact ⟨rfl, tp, rfl, t0, by omega, HT.out.1, HT.out.2⟩
    case rest =>
      obtain ⟨rfl, tp, rfl, t0, t5, ht1, ht2⟩ := hcut
      have T1 := hid ht1
      have T2 := hid ht2
      clear ht1 ht2
      by_cases hneg : tp < 0
      · go_wp2_with fail
        go_ret
        exact ⟨rfl, B.out⟩
      · obtain ⟨tn, rfl⟩ := Int.eq_ofNat_of_zero_le (show 0 ≤ tp by omega)
        have ehv : holderV bs tn = bs.getD tn 0 := by unfold holderV; rw [if_pos (by omega), Int.toNat_natCast]
        have hsk := SM.out tn (by omega)
        have hp0 := T1.out (by omega)
        rw [Int.toNat_natCast] at hp0
        obtain ⟨y2, hy2⟩ : ∃ y2, bs.getD tn 0 = y2 := ⟨_, rfl⟩
        rw [hy2] at ehv hsk hp0
        have EHV := hid ehv
        clear hy2 ehv
        obtain ⟨-, y15⟩ := hsk
        go_wp2_with fail
        refine (holder_to _ bs tn y2 _ ?_ EHV.out).mono ?_
        · exact F.out
        rintro e w' ⟨rfl, rfl⟩
        go_wp2_with fail
        go_loopw [16] (fun kv wx => ∃ (k : Nat) (bs' : List Int), tn + 1 ≤ k ∧ k ≤ 5 ∧ kv = .int .i64 k ∧ bs'.length = 5 ∧ Hid (∀ i, i < 5 → k ≤ i → bs'.getD i 0 = -1) ∧ With w w0.heap.size bs' wx) (fun kv _ => 5 - (intOf kv).toNat)
        case atStart => exact ⟨tn + 1, bs, by omega, by omega, by go_num, H5.out, hid (fun i hi hki => T2.out i hi (by omega)), F.out, B.out⟩
        case round =>
          clear F B H5
          obtain ⟨k, bs', hk1, hk2, rfl, h5, HN, hf, hb⟩ := hrel
          have H5 := hid h5
          have F := hid hf
          have B := hid hb
          have hflt := hf.lt
          have hbs := hb.size
          clear h5 hf hb
          by_cases hlt : k < 5
          · have hr : right y2 k := ⟨by omega, by omega⟩
            have e0 : tryE bs' y2 k = 0 := by
              unfold tryE
              rw [if_neg (fun h => h hr), Int.toNat_natCast, if_neg, if_neg (fun h => h (HN.out k hlt (Nat.le_refl _)))]
              rw [above_no (fun i hi hki => by rw [HN.out i hi hki]; omega)]
              decide
            have eb : tryB bs' y2 k = bs'.set k y2 := by unfold tryB; rw [e0, if_pos rfl, Int.toNat_natCast]
            have E0 := hid e0
            have EB := hid eb
            clear e0 eb hr
            go_wp2_with fail
            refine (try_to _ bs' (bs'.set k y2) y2 k 0 _ ?_ E0.out EB.out).mono ?_
            · exact F.out
            rintro e w2 ⟨rfl, hf2, ho2⟩
            have F2 := hid hf2
            have O2 := hid ho2
            clear hf2 ho2
            go_wp2_with fail
            go_roundw
            case rel =>
              refine ⟨k + 1, bs'.set k y2, by omega, by omega, by go_num, by simp [H5.out], hid (fun i hi hki => ?_), F2.out, Only.below B.out O2.out hs0 hbs⟩
              have := HN.out i hi (by omega)
              rw [← this]
              simp only [List.getD_eq_getElem?_getD]
              rw [List.getElem?_set_ne (by omega)]
            case measure => simp [intOf]; omega
          · obtain rfl : k = 5 := by omega
            go_wp2_with fail
            go_ret
            exact ⟨rfl, B.out⟩
end Go.Proofs.Ytpemlpahpbpbeaa.Lk
