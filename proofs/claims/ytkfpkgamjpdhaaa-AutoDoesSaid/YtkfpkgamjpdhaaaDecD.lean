/- Decide, walked. Conditions: those that the contract names. -/
import Derived.Test.YtkfpkgamjpdhaaaDecPure
namespace Go.Proofs.Ytkfpkgamjpdhaaa.Au
open Go.RowKit
set_option linter.unusedVariables false
set_option linter.unusedSimpArgs false
set_option maxRecDepth 100000 in
set_option maxHeartbeats 4000000 in
theorem decide_t (p cl : Nat) (ws : List (List Int)) (S : Option Addr) (sc : Nat) (w : World) (hst : St w p cl ws S sc) (hn : ws.length = 3) (hcl : cl ≤ 8)
    (hnum : ∀ i, i < 3 → ∀ c, c < cl → 0 ≤ evAt ws c i ∧ evAt ws c i ≤ 2147483647) :
    Calls Try.prog 13 #[.pointer (some ⟨p, 0, none⟩)] w fun e w' =>
      ((0 ≤ (dec ws cl).1 ∧ 0 ≤ (dec ws cl).2.1) ∧ e = .returned (.tuple #[.int .i64 (dec ws cl).1, .int .i64 (dec ws cl).2.1, .bool true]) ∧ St w' p cl [] none 0 ∧ Only p w w') ∨
      (¬ (0 ≤ (dec ws cl).1 ∧ 0 ≤ (dec ws cl).2.1) ∧ e = .returned (.tuple #[.int .i64 0, .int .i64 0, .bool false]) ∧ Below w.heap.size w w') := by
  have h0 := hst.c0
  have h1 := hst.c1
  have hf1 := hst.f1
  have hp := World.block_lt_of_cell? w _ h0
  simp only at hp
  rw [hn] at h1
  obtain ⟨g, cap, hS, hpg, hgl⟩ := hst.own.form (by omega)
  simp only [Value.slice.injEq] at hS
  obtain ⟨hS1, _, hS2⟩ := hS
  subst hS1 hS2
  have R0 := range_own (w := w) hn hst.wid (hn ▸ hst.own) 2 (by omega)
  obtain ⟨win, hwin⟩ : ∃ win, ws.getD 2 [] = win := ⟨_, rfl⟩
  rw [hwin] at R0
  have R := hid (show w.rangeAt g 48 (nums win) ∧ win.length = 24 from R0)
  have HWIN := hid hwin
  have N := hid hn
  have T := hid hst
  have NU := hid hnum
  clear R0 hwin hn hst hnum
  go_enter Try.func13, Try.ntmps13
  go_wp2_with first
    | (refine wpList_load55 rfl (.tmp 22) rfl g 48 rfl win R.out.1 R.out.2 ?_)
    | (refine wpList_store55 rfl (.tmp 5) (.tmp 23) rfl w.heap.size win (List.replicate 24 0) rfl rfl (Blk.new 55 w (List.replicate 24 0) _ rfl) rfl R.out.2 ?_; intro w2 hb2 ho2; have hw2 := Only.below ((Below.refl w.heap.size w).alloc (Nat.le_refl _) _) ho2 (Nat.le_refl _) (by simp); have c0 := (hw2.cell (p := ⟨p, 0, none⟩) hp).trans h0; have HO := hid hw2; have HB2 := hid hb2; clear hb2 ho2 hw2)
  go_loopw [6, 7, 8, 28] (fun gv gt mv iv wr => ∃ (c : Nat), c ≤ cl ∧ iv = .int .i64 c ∧ gv = .int .i64 (dec ws c).1 ∧ gt = .int .i64 (dec ws c).2.1 ∧ mv = .int .i64 (dec ws c).2.2 ∧ Below w.heap.size w wr ∧ Blk 55 wr w.heap.size win) (fun _ _ _ iv _ => cl - (intOf iv).toNat)
  case atStart =>
    refine ⟨0, by omega, rfl, rfl, rfl, rfl, HO.out, HB2.out⟩
  case round =>
    obtain ⟨c, hc, rfl, rfl, rfl, rfl, hb, hk⟩ := hrel
    have B := hid hb
    have hsz := hb.size
    have K := hid hk
    have hgl2 := hk.lt
    clear hb hk c0 h0 h1 HO HB2
    by_cases hlt : c < cl
    · have ST := hid (T.out.below B.out)
      have NU' := hid (fun i hi => NU.out i hi c hlt)
      obtain ⟨s, hs⟩ : ∃ s, sumW ws c 3 = s := ⟨_, rfl⟩
      obtain ⟨l, hl⟩ : ∃ l, leastW ws c 3 = l := ⟨_, rfl⟩
      obtain ⟨gv, gt, m, hd⟩ : ∃ gv gt m, dec ws c = (gv, gt, m) := ⟨_, _, _, rfl⟩
      have DR := dec_range (ws := ws) c
      have hss := stepD_eq hd hs hl
      rw [hd]
      rw [hd] at DR
      simp only at DR
      obtain ⟨d1, d2, d3, d4⟩ := DR
      have q1 := K.out.cell (c * 3 + 1) (by have := R.out.2; omega)
      have q2 := K.out.cell (c * 3 + 2) (by have := R.out.2; omega)
      have e1 : win.getD (c * 3 + 1) 0 = pgAt ws c := by unfold pgAt; rw [HWIN.out, Nat.mul_comm]
      have e2 : win.getD (c * 3 + 2) 0 = frAt ws c := by unfold frAt; rw [HWIN.out, Nat.mul_comm]
      rw [e1] at q1
      rw [e2] at q2
      obtain ⟨pg, hpg'⟩ : ∃ x, pgAt ws c = x := ⟨_, rfl⟩
      obtain ⟨fr, hfr⟩ : ∃ x, frAt ws c = x := ⟨_, rfl⟩
      rw [hpg'] at q1 hss
      rw [hfr] at q2 hss
      have HS := hid hs
      have HL := hid hl
      have HSS := hid hss
      have hc8 : c < 8 := by omega
      have hc8' : (c : Int) < 8 := by omega
      clear e1 e2 hpg' hfr hs hl hss hd
      by_cases hA : 0 < l ∧ m < s
      · have a1 : decide (0 < l) = true := by simp [hA.1]
        have a2 : decide (m < s) = true := by simp [hA.2]
        have HA := hid hA
        clear hA
        go_wp2_with (go_at_call 18; refine (evicted3 p cl ws (some ⟨g, 0, none⟩) sc c s l wr ST.out N.out hc8 NU'.out HS.out HL.out).mono ?_; rintro e w2 ⟨rfl, hb2⟩; have k1 := (hb2.cell (p := ⟨w.heap.size, c * 3 + 1, none⟩) hgl2).trans q1; have k2 := (hb2.cell (p := ⟨w.heap.size, c * 3 + 2, none⟩) hgl2).trans q2; have HB3 := hid hb2; clear hb2)
        go_roundw
        case rel =>
          refine ⟨c + 1, by omega, by go_num, ?_, ?_, ?_, (by first | exact B.out.trans (HB3.out.mono hsz) | exact Below.drewN' (B.out.trans (HB3.out.mono hsz)) _), K.out.other (HB3.out.block _ hgl2)⟩
          all_goals (rw [HSS.out, if_pos HA.out])
        case measure => simp [intOf]; omega
      · have HNA := hid hA
        by_cases hl0 : 0 < l
        · have hms : ¬ m < s := fun h => hA ⟨hl0, h⟩
          by_cases hz : s = 0
          · by_cases hpp : 2 ≤ pg
            · by_cases hgv : gv = -1
              · have a1 : decide (0 < l) = true := by simp [hl0]
                have a2 : decide (m < s) = false := by simp; omega
                clear hA hl0 hms
                subst hgv
                have b1 : decide (s = 0) = true := by simp [hz]
                have b1' : (s == 0) = true := by simp [hz]
                have b2 : decide (2 ≤ pg) = true := by simp [hpp]
                have HZ := hid hz
                have HP := hid hpp
                clear hz hpp
                go_wp2_with (go_at_call 18; refine (evicted3 p cl ws (some ⟨g, 0, none⟩) sc c s l wr ST.out N.out hc8 NU'.out HS.out HL.out).mono ?_; rintro e w2 ⟨rfl, hb2⟩; have k1 := (hb2.cell (p := ⟨w.heap.size, c * 3 + 1, none⟩) hgl2).trans q1; have k2 := (hb2.cell (p := ⟨w.heap.size, c * 3 + 2, none⟩) hgl2).trans q2; have HB3 := hid hb2; clear hb2)
                go_quiet (fail)
                go_wp2_with fail
                go_roundw
                case rel =>
                  refine ⟨c + 1, by omega, by go_num, ?_, ?_, ?_, (by first | exact B.out.trans (HB3.out.mono hsz) | exact Below.drewN' (B.out.trans (HB3.out.mono hsz)) _), K.out.other (HB3.out.block _ hgl2)⟩
                  all_goals (rw [HSS.out, if_neg HNA.out, if_pos ⟨HZ.out, HP.out⟩, if_pos (.inl (by simp))])
                case measure => simp [intOf]; omega
              · have a1 : decide (0 < l) = true := by simp [hl0]
                have a2 : decide (m < s) = false := by simp; omega
                clear hA hl0 hms
                obtain ⟨v, rfl⟩ : ∃ v : Nat, gv = v := ⟨gv.toNat, by omega⟩
                have hv8 : v < 8 := by omega
                have hv8' : (v : Int) < 8 := by omega
                have q3 := K.out.cell (v * 3 + 2) (by have := R.out.2; omega)
                have e3 : win.getD (v * 3 + 2) 0 = frAt ws v := by unfold frAt; rw [HWIN.out, Nat.mul_comm]
                rw [e3] at q3
                obtain ⟨fv, hfv⟩ : ∃ x, frAt ws v = x := ⟨_, rfl⟩
                rw [hfv] at q3
                have HFV := hid hfv
                clear e3 hfv
                have b1 : decide (s = 0) = true := by simp [hz]
                have b1' : (s == 0) = true := by simp [hz]
                have b2 : decide (2 ≤ pg) = true := by simp [hpp]
                have b3 : decide ((v : Int) = -1) = false := by first | (simp; done) | (simp; omega)
                have b3' : ((v : Int) == -1) = false := by first | (simp; done) | (simp; omega)
                have hgn : ¬ (v : Int) = -1 := by omega
                have HZ := hid hz
                have HP := hid hpp
                have HGN := hid hgn
                by_cases hfc : fv < fr
                · have b4 : decide (fv < fr) = true := by simp [hfc]
                  have HF := hid hfc
                  clear hz hpp hgv hgn hfc
                  go_wp2_with (go_at_call 18; refine (evicted3 p cl ws (some ⟨g, 0, none⟩) sc c s l wr ST.out N.out hc8 NU'.out HS.out HL.out).mono ?_; rintro e w2 ⟨rfl, hb2⟩; have k1 := (hb2.cell (p := ⟨w.heap.size, c * 3 + 1, none⟩) hgl2).trans q1; have k2 := (hb2.cell (p := ⟨w.heap.size, c * 3 + 2, none⟩) hgl2).trans q2; have k3 := (hb2.cell (p := ⟨w.heap.size, v * 3 + 2, none⟩) hgl2).trans q3; have HB3 := hid hb2; clear hb2)
                  go_quiet (fail)
                  go_wp2_with fail
                  go_roundw
                  case rel =>
                    refine ⟨c + 1, by omega, by go_num, ?_, ?_, ?_, (by first | exact B.out.trans (HB3.out.mono hsz) | exact Below.drewN' (B.out.trans (HB3.out.mono hsz)) _), K.out.other (HB3.out.block _ hgl2)⟩
                    all_goals (rw [HSS.out, if_neg HNA.out, if_pos ⟨HZ.out, HP.out⟩, if_pos (.inr (by rw [Int.toNat_natCast, HFV.out]; exact HF.out))])
                  case measure => simp [intOf]; omega
                · have b4 : decide (fv < fr) = false := by simp; omega
                  have HF := hid hfc
                  clear hz hpp hgv hgn hfc
                  go_wp2_with (go_at_call 18; refine (evicted3 p cl ws (some ⟨g, 0, none⟩) sc c s l wr ST.out N.out hc8 NU'.out HS.out HL.out).mono ?_; rintro e w2 ⟨rfl, hb2⟩; have k1 := (hb2.cell (p := ⟨w.heap.size, c * 3 + 1, none⟩) hgl2).trans q1; have k2 := (hb2.cell (p := ⟨w.heap.size, c * 3 + 2, none⟩) hgl2).trans q2; have k3 := (hb2.cell (p := ⟨w.heap.size, v * 3 + 2, none⟩) hgl2).trans q3; have HB3 := hid hb2; clear hb2)
                  go_quiet (fail)
                  go_wp2_with fail
                  go_roundw
                  case rel =>
                    refine ⟨c + 1, by omega, by go_num, ?_, ?_, ?_, (by first | exact B.out.trans (HB3.out.mono hsz) | exact Below.drewN' (B.out.trans (HB3.out.mono hsz)) _), K.out.other (HB3.out.block _ hgl2)⟩
                    all_goals (rw [HSS.out, if_neg HNA.out, if_pos ⟨HZ.out, HP.out⟩, if_neg (fun h => h.elim HGN.out (fun h => by rw [Int.toNat_natCast, HFV.out] at h; have := HF.out; omega))])
                  case measure => simp [intOf]; omega
            · have a1 : decide (0 < l) = true := by simp [hl0]
              have a2 : decide (m < s) = false := by simp; omega
              clear hA hl0 hms
              have b1 : decide (s = 0) = true := by simp [hz]
              have b1' : (s == 0) = true := by simp [hz]
              have b2 : decide (2 ≤ pg) = false := by simp; omega
              have HZ := hid hz
              have HP := hid hpp
              clear hz hpp
              go_wp2_with (go_at_call 18; refine (evicted3 p cl ws (some ⟨g, 0, none⟩) sc c s l wr ST.out N.out hc8 NU'.out HS.out HL.out).mono ?_; rintro e w2 ⟨rfl, hb2⟩; have k1 := (hb2.cell (p := ⟨w.heap.size, c * 3 + 1, none⟩) hgl2).trans q1; have k2 := (hb2.cell (p := ⟨w.heap.size, c * 3 + 2, none⟩) hgl2).trans q2; have HB3 := hid hb2; clear hb2)
              go_roundw
              case rel =>
                refine ⟨c + 1, by omega, by go_num, ?_, ?_, ?_, (by first | exact B.out.trans (HB3.out.mono hsz) | exact Below.drewN' (B.out.trans (HB3.out.mono hsz)) _), K.out.other (HB3.out.block _ hgl2)⟩
                all_goals (rw [HSS.out, if_neg HNA.out, if_neg (fun h => by have := HP.out; omega)])
              case measure => simp [intOf]; omega
          · have a1 : decide (0 < l) = true := by simp [hl0]
            have a2 : decide (m < s) = false := by simp; omega
            clear hA hl0 hms
            have b1 : decide (s = 0) = false := by simp [hz]
            have b1' : (s == 0) = false := by simp [hz]
            have HZ := hid hz
            clear hz
            go_wp2_with (go_at_call 18; refine (evicted3 p cl ws (some ⟨g, 0, none⟩) sc c s l wr ST.out N.out hc8 NU'.out HS.out HL.out).mono ?_; rintro e w2 ⟨rfl, hb2⟩; have k1 := (hb2.cell (p := ⟨w.heap.size, c * 3 + 1, none⟩) hgl2).trans q1; have k2 := (hb2.cell (p := ⟨w.heap.size, c * 3 + 2, none⟩) hgl2).trans q2; have HB3 := hid hb2; clear hb2)
            go_roundw
            case rel =>
              refine ⟨c + 1, by omega, by go_num, ?_, ?_, ?_, (by first | exact B.out.trans (HB3.out.mono hsz) | exact Below.drewN' (B.out.trans (HB3.out.mono hsz)) _), K.out.other (HB3.out.block _ hgl2)⟩
              all_goals (rw [HSS.out, if_neg HNA.out, if_neg (fun h => HZ.out h.1)])
            case measure => simp [intOf]; omega
        · by_cases hz : s = 0
          · by_cases hpp : 2 ≤ pg
            · by_cases hgv : gv = -1
              · have a1 : decide (0 < l) = false := by simp; omega
                clear hA hl0
                subst hgv
                have b1 : decide (s = 0) = true := by simp [hz]
                have b1' : (s == 0) = true := by simp [hz]
                have b2 : decide (2 ≤ pg) = true := by simp [hpp]
                have HZ := hid hz
                have HP := hid hpp
                clear hz hpp
                go_wp2_with (go_at_call 18; refine (evicted3 p cl ws (some ⟨g, 0, none⟩) sc c s l wr ST.out N.out hc8 NU'.out HS.out HL.out).mono ?_; rintro e w2 ⟨rfl, hb2⟩; have k1 := (hb2.cell (p := ⟨w.heap.size, c * 3 + 1, none⟩) hgl2).trans q1; have k2 := (hb2.cell (p := ⟨w.heap.size, c * 3 + 2, none⟩) hgl2).trans q2; have HB3 := hid hb2; clear hb2)
                go_quiet (fail)
                go_wp2_with fail
                go_roundw
                case rel =>
                  refine ⟨c + 1, by omega, by go_num, ?_, ?_, ?_, (by first | exact B.out.trans (HB3.out.mono hsz) | exact Below.drewN' (B.out.trans (HB3.out.mono hsz)) _), K.out.other (HB3.out.block _ hgl2)⟩
                  all_goals (rw [HSS.out, if_neg HNA.out, if_pos ⟨HZ.out, HP.out⟩, if_pos (.inl (by simp))])
                case measure => simp [intOf]; omega
              · have a1 : decide (0 < l) = false := by simp; omega
                clear hA hl0
                obtain ⟨v, rfl⟩ : ∃ v : Nat, gv = v := ⟨gv.toNat, by omega⟩
                have hv8 : v < 8 := by omega
                have hv8' : (v : Int) < 8 := by omega
                have q3 := K.out.cell (v * 3 + 2) (by have := R.out.2; omega)
                have e3 : win.getD (v * 3 + 2) 0 = frAt ws v := by unfold frAt; rw [HWIN.out, Nat.mul_comm]
                rw [e3] at q3
                obtain ⟨fv, hfv⟩ : ∃ x, frAt ws v = x := ⟨_, rfl⟩
                rw [hfv] at q3
                have HFV := hid hfv
                clear e3 hfv
                have b1 : decide (s = 0) = true := by simp [hz]
                have b1' : (s == 0) = true := by simp [hz]
                have b2 : decide (2 ≤ pg) = true := by simp [hpp]
                have b3 : decide ((v : Int) = -1) = false := by first | (simp; done) | (simp; omega)
                have b3' : ((v : Int) == -1) = false := by first | (simp; done) | (simp; omega)
                have hgn : ¬ (v : Int) = -1 := by omega
                have HZ := hid hz
                have HP := hid hpp
                have HGN := hid hgn
                by_cases hfc : fv < fr
                · have b4 : decide (fv < fr) = true := by simp [hfc]
                  have HF := hid hfc
                  clear hz hpp hgv hgn hfc
                  go_wp2_with (go_at_call 18; refine (evicted3 p cl ws (some ⟨g, 0, none⟩) sc c s l wr ST.out N.out hc8 NU'.out HS.out HL.out).mono ?_; rintro e w2 ⟨rfl, hb2⟩; have k1 := (hb2.cell (p := ⟨w.heap.size, c * 3 + 1, none⟩) hgl2).trans q1; have k2 := (hb2.cell (p := ⟨w.heap.size, c * 3 + 2, none⟩) hgl2).trans q2; have k3 := (hb2.cell (p := ⟨w.heap.size, v * 3 + 2, none⟩) hgl2).trans q3; have HB3 := hid hb2; clear hb2)
                  go_quiet (fail)
                  go_wp2_with fail
                  go_roundw
                  case rel =>
                    refine ⟨c + 1, by omega, by go_num, ?_, ?_, ?_, (by first | exact B.out.trans (HB3.out.mono hsz) | exact Below.drewN' (B.out.trans (HB3.out.mono hsz)) _), K.out.other (HB3.out.block _ hgl2)⟩
                    all_goals (rw [HSS.out, if_neg HNA.out, if_pos ⟨HZ.out, HP.out⟩, if_pos (.inr (by rw [Int.toNat_natCast, HFV.out]; exact HF.out))])
                  case measure => simp [intOf]; omega
                · have b4 : decide (fv < fr) = false := by simp; omega
                  have HF := hid hfc
                  clear hz hpp hgv hgn hfc
                  go_wp2_with (go_at_call 18; refine (evicted3 p cl ws (some ⟨g, 0, none⟩) sc c s l wr ST.out N.out hc8 NU'.out HS.out HL.out).mono ?_; rintro e w2 ⟨rfl, hb2⟩; have k1 := (hb2.cell (p := ⟨w.heap.size, c * 3 + 1, none⟩) hgl2).trans q1; have k2 := (hb2.cell (p := ⟨w.heap.size, c * 3 + 2, none⟩) hgl2).trans q2; have k3 := (hb2.cell (p := ⟨w.heap.size, v * 3 + 2, none⟩) hgl2).trans q3; have HB3 := hid hb2; clear hb2)
                  go_quiet (fail)
                  go_wp2_with fail
                  go_roundw
                  case rel =>
                    refine ⟨c + 1, by omega, by go_num, ?_, ?_, ?_, (by first | exact B.out.trans (HB3.out.mono hsz) | exact Below.drewN' (B.out.trans (HB3.out.mono hsz)) _), K.out.other (HB3.out.block _ hgl2)⟩
                    all_goals (rw [HSS.out, if_neg HNA.out, if_pos ⟨HZ.out, HP.out⟩, if_neg (fun h => h.elim HGN.out (fun h => by rw [Int.toNat_natCast, HFV.out] at h; have := HF.out; omega))])
                  case measure => simp [intOf]; omega
            · have a1 : decide (0 < l) = false := by simp; omega
              clear hA hl0
              have b1 : decide (s = 0) = true := by simp [hz]
              have b1' : (s == 0) = true := by simp [hz]
              have b2 : decide (2 ≤ pg) = false := by simp; omega
              have HZ := hid hz
              have HP := hid hpp
              clear hz hpp
              go_wp2_with (go_at_call 18; refine (evicted3 p cl ws (some ⟨g, 0, none⟩) sc c s l wr ST.out N.out hc8 NU'.out HS.out HL.out).mono ?_; rintro e w2 ⟨rfl, hb2⟩; have k1 := (hb2.cell (p := ⟨w.heap.size, c * 3 + 1, none⟩) hgl2).trans q1; have k2 := (hb2.cell (p := ⟨w.heap.size, c * 3 + 2, none⟩) hgl2).trans q2; have HB3 := hid hb2; clear hb2)
              go_roundw
              case rel =>
                refine ⟨c + 1, by omega, by go_num, ?_, ?_, ?_, (by first | exact B.out.trans (HB3.out.mono hsz) | exact Below.drewN' (B.out.trans (HB3.out.mono hsz)) _), K.out.other (HB3.out.block _ hgl2)⟩
                all_goals (rw [HSS.out, if_neg HNA.out, if_neg (fun h => by have := HP.out; omega)])
              case measure => simp [intOf]; omega
          · have a1 : decide (0 < l) = false := by simp; omega
            clear hA hl0
            have b1 : decide (s = 0) = false := by simp [hz]
            have b1' : (s == 0) = false := by simp [hz]
            have HZ := hid hz
            clear hz
            go_wp2_with (go_at_call 18; refine (evicted3 p cl ws (some ⟨g, 0, none⟩) sc c s l wr ST.out N.out hc8 NU'.out HS.out HL.out).mono ?_; rintro e w2 ⟨rfl, hb2⟩; have k1 := (hb2.cell (p := ⟨w.heap.size, c * 3 + 1, none⟩) hgl2).trans q1; have k2 := (hb2.cell (p := ⟨w.heap.size, c * 3 + 2, none⟩) hgl2).trans q2; have HB3 := hid hb2; clear hb2)
            go_roundw
            case rel =>
              refine ⟨c + 1, by omega, by go_num, ?_, ?_, ?_, (by first | exact B.out.trans (HB3.out.mono hsz) | exact Below.drewN' (B.out.trans (HB3.out.mono hsz)) _), K.out.other (HB3.out.block _ hgl2)⟩
              all_goals (rw [HSS.out, if_neg HNA.out, if_neg (fun h => HZ.out h.1)])
            case measure => simp [intOf]; omega
    · obtain rfl : c = cl := by omega
      have DR := dec_range (ws := ws) c
      obtain ⟨gv, gt, m, hd⟩ : ∃ gv gt m, dec ws c = (gv, gt, m) := ⟨_, _, _, rfl⟩
      rw [hd] at DR ⊢
      simp only at DR
      obtain ⟨d1, d2, d3, d4⟩ := DR
      have HD := hid hd
      clear hlt hc hd
      have c0 := (B.out.cell (p := ⟨p, 0, none⟩) hp).trans T.out.c0
      have c1 := (B.out.cell (p := ⟨p, 1, none⟩) hp).trans T.out.c1
      have f1 := (B.out.frozen (p := ⟨p, 1, none⟩) hp).trans hf1
      by_cases hgv : gv = -1
      · subst hgv
        clear d1 d2 d3 d4
        go_wp2_with fail
        go_ret3
        rw [HD.out]; exact .inr ⟨by simp, rfl, B.out⟩
      · have b3 : decide (gv = -1) = false := by simp [hgv]
        have b3' : (gv == -1) = false := by simp [hgv]
        by_cases hgt : gt = -1
        · subst hgt
          clear d1 d2 d3 d4 hgv
          go_wp2_with fail
          go_ret3
          rw [HD.out]; exact .inr ⟨by simp, rfl, B.out⟩
        · have b4 : decide (gt = -1) = false := by simp [hgt]
          have b4' : (gt == -1) = false := by simp [hgt]
          have HGG := hid (show 0 ≤ gv ∧ 0 ≤ gt by omega)
          clear d1 d2 d3 d4 hgv hgt
          go_wp2_with fail
          go_ret3
          rw [HD.out]
          refine .inl ⟨HGG.out, rfl, ⟨by go_simp, by go_simp, by go_simp, World.ownsRow_nil _ _ _ _, by simp, by simp⟩, (Only.of_below B.out).trans (Only.set p 1 wr _)⟩
end Go.Proofs.Ytkfpkgamjpdhaaa.Au

