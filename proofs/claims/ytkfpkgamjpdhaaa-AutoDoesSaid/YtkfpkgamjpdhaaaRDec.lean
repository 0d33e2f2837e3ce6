/- The reference's Decide, walked. Conditions: those that the contract names. -/
import Derived.Test.YtkfpkgamjpdhaaaRSee
namespace Go.Proofs.Ytkfpkgamjpdhaaa.Au
open Go.RowKit
set_option linter.unusedVariables false
set_option linter.unusedSimpArgs false
theorem leastW_pos {ws : List (List Int)} {c : Nat} : ∀ k, (0 < leastW ws c k ↔ ∀ i, i < k → 0 < evAt ws c i) := by
  intro k
  induction k with
  | zero => simp [leastW]
  | succ k ih =>
    have e : 0 < leastW ws c (k + 1) ↔ 0 < evAt ws c k ∧ 0 < leastW ws c k := by simp only [leastW]; split <;> omega
    rw [e, ih]
    constructor
    · intro h i hi
      by_cases e : i = k
      · subst e; exact h.1
      · exact h.2 i (by omega)
    · intro h
      exact ⟨h k (by omega), fun i hi => h i (by omega)⟩
theorem sum_pos {ws : List (List Int)} {c : Nat} (h : 0 < leastW ws c 3) : 0 < sumW ws c 3 := by
  have h := (leastW_pos 3).1 h
  have h0 := h 0 (by omega)
  have h1 := h 1 (by omega)
  have h2 := h 2 (by omega)
  simp only [sumW]; omega
theorem rdecide_few (q base cl : Nat) (L : List (Value × List Vw)) (Wv : Value) (w : World) (hst : RSt w q base cl L Wv) (hn : L.length < 3) :
    Calls Try.prog 14 #[.pointer (some ⟨q, 0, none⟩)] w fun e w' => e = .returned (.tuple #[.int .i64 0, .int .i64 0, .bool false]) ∧ w = w' := by
  have h1 := hst.c1
  obtain ⟨A, cap, e⟩ : ∃ A cap, Wv = .slice A L.length cap := by
    rcases hst.own.2 with ⟨e, h0⟩ | ⟨g, cap, cur, e, _⟩
    · exact ⟨none, 0, by rw [e, h0]⟩
    · exact ⟨_, _, e⟩
  subst e
  obtain ⟨n, hn'⟩ : ∃ n, L.length = n := ⟨_, rfl⟩
  rw [hn'] at h1 hn
  clear hn' hst
  go_enter Try.func14, Try.ntmps14
  go_wp2_with fail
  go_ret3
  exact ⟨rfl, rfl⟩
theorem RSt.at {w : World} {q base cl g n cap : Nat} {L : List (Value × List Vw)} (h : RSt w q base cl L (.slice (some ⟨g, 0, none⟩) n cap)) (j : Nat) (hj : j < L.length) :
    ∃ b off c, w.cell? ⟨g, j, none⟩ = some (.slice (some ⟨b, off, none⟩) cl c) ∧ g < w.heap.size ∧ b < w.heap.size ∧ ∀ i, i < cl → w.cell? ⟨b, off + i * 3, none⟩ = some (.int .i64 (((L.map (·.2)).getD j []).getD i (0, 0, 0)).1) ∧ w.cell? ⟨b, off + i * 3 + 1, none⟩ = some (.int .i64 (((L.map (·.2)).getD j []).getD i (0, 0, 0)).2.1) ∧ w.cell? ⟨b, off + i * 3 + 2, none⟩ = some (.int .i64 (((L.map (·.2)).getD j []).getD i (0, 0, 0)).2.2) := by
  have hm : L[j] ∈ L := List.getElem_mem ..
  obtain ⟨b, off, c, e, k1, k2, hv, _⟩ := h.row _ hm
  have hn : n = L.length := by
    rcases h.own.2 with ⟨h', _⟩ | ⟨_, _, _, h', _⟩
    · simp at h'
    · simp only [Value.slice.injEq] at h'; exact h'.2.1
  subst hn
  refine ⟨b, off, c, ?_, (h.own.lt g rfl).2, k2, fun i hi => ?_⟩
  · rw [h.own.cellAt j (by omega)]
    simp [hj, e]
  · have e2 : (L.map (·.2)).getD j [] = L[j].2 := by simp [List.getD_eq_getElem?_getD, hj]
    rw [e2]
    rcases hv.2 with h0 | ⟨b', off', e', hb', hc⟩
    · omega
    · cases e'; exact hc i hi
theorem bool_and (a b : Bool) (p : Prop) [Decidable p] (h : (a && b) = decide p) : Value.bool (a && b) = Value.bool (decide p) := by rw [h]
set_option maxRecDepth 100000 in
set_option maxHeartbeats 4000000 in
theorem rdecide_t (q base cl : Nat) (L : List (Value × List Vw)) (Wv : Value) (w : World) (hst : RSt w q base cl L Wv) (hn : L.length = 3) (hcl : cl ≤ 8) :
    Calls Try.prog 14 #[.pointer (some ⟨q, 0, none⟩)] w fun e w' =>
      ((0 ≤ (decV (L.map (·.2)) cl).1 ∧ 0 ≤ (decV (L.map (·.2)) cl).2.1) ∧ e = .returned (.tuple #[.int .i64 (decV (L.map (·.2)) cl).1, .int .i64 (decV (L.map (·.2)) cl).2.1, .bool true]) ∧ RSt w' q base cl [] (.slice none 0 0) ∧ Only q w w') ∨
      (¬ (0 ≤ (decV (L.map (·.2)) cl).1 ∧ 0 ≤ (decV (L.map (·.2)) cl).2.1) ∧ e = .returned (.tuple #[.int .i64 0, .int .i64 0, .bool false]) ∧ Below w.heap.size w w') := by
  have h0 := hst.c0
  have h1 := hst.c1
  have hq := hst.qlt
  obtain ⟨g, cap, e, _, hgl⟩ := hst.own.form (by omega)
  subst e
  rw [hn] at h1
  have T := hid hst
  have N := hid hn
  obtain ⟨ws, hws⟩ : ∃ ws, (L.map (·.2)).map canon = ws := ⟨_, rfl⟩
  have hat : ∀ j, j < 3 → ∃ b off c, w.cell? ⟨g, j, none⟩ = some (.slice (some ⟨b, off, none⟩) cl c) ∧ b < w.heap.size ∧ ∀ i, i < cl → w.cell? ⟨b, off + i * 3, none⟩ = some (.int .i64 (evAt ws i j)) ∧ (j = 2 → w.cell? ⟨b, off + i * 3 + 1, none⟩ = some (.int .i64 (pgAt ws i)) ∧ w.cell? ⟨b, off + i * 3 + 2, none⟩ = some (.int .i64 (frAt ws i))) := by
    intro j hj
    obtain ⟨b, off, c, k1, k2, k3, k4⟩ := hst.at j (by omega)
    refine ⟨b, off, c, k1, k3, fun i hi => ⟨?_, fun e => ⟨?_, ?_⟩⟩⟩
    · rw [(k4 i hi).1, ← hws, evAt_canon]; rfl
    · subst e; rw [(k4 i hi).2.1, ← hws, pgAt_canon]; rfl
    · subst e; rw [(k4 i hi).2.2, ← hws, frAt_canon]; rfl
  have AT := hid hat
  have hev : ∀ j, j < 3 → ∀ c, c < cl → 0 ≤ evAt ws c j ∧ evAt ws c j ≤ 2147483647 := by
    intro j hj c hc
    obtain ⟨b, off, cc, e, _, _, hv, _⟩ := hst.row L[j] (List.getElem_mem ..)
    have hok := hst.okv L[j] (List.getElem_mem ..)
    have := okV_ev (all_get hok c (by rw [hv.1]; exact hc))
    rw [← hws, evAt_canon]
    unfold evV
    have e2 : (L.map (·.2)).getD j [] = L[j].2 := by simp [List.getD_eq_getElem?_getD, show j < L.length by omega]
    rw [e2]; exact this
  have EV := hid hev
  have HD : decV (L.map (·.2)) cl = dec ws cl := by rw [← hws]; rfl
  rw [HD]
  clear hst hn hws hat hev HD
  go_enter Try.func14, Try.ntmps14
  go_wp2_with fail
  go_loopw [5, 6, 7, 8] (fun gt gv mv iv wr => ∃ (c : Nat), c ≤ cl ∧ iv = .int .i64 c ∧ gv = .int .i64 (dec ws c).1 ∧ gt = .int .i64 (dec ws c).2.1 ∧ mv = .int .i64 (dec ws c).2.2 ∧ Below w.heap.size w wr) (fun _ _ _ iv _ => cl - (intOf iv).toNat)
  case atStart =>
    exact ⟨0, by omega, rfl, rfl, rfl, rfl, Below.refl _ _⟩
  case round =>
    obtain ⟨c, hc, rfl, rfl, rfl, rfl, hb⟩ := hrel
    have B := hid hb
    have hsz := hb.size
    have q0 := (hb.cell (p := ⟨q, 0, none⟩) hq).trans h0
    have q1 := (hb.cell (p := ⟨q, 1, none⟩) hq).trans h1
    clear hb h0 h1
    by_cases hlt : c < cl
    · obtain ⟨gv, gt, m, hd⟩ : ∃ gv gt m, dec ws c = (gv, gt, m) := ⟨_, _, _, rfl⟩
      have DR := dec_range (ws := ws) c
      have hss := stepD_eq hd rfl rfl
      rw [hd]
      rw [hd] at DR
      simp only at DR
      obtain ⟨d1, d2, d3, d4⟩ := DR
      have hc8 : (c : Int) < cl := by omega
      have HSS := hid hss
      clear hd hss
      go_wp2_with fail
      go_loop [9, 10, 11] (fun sv ev iv => ∃ (i : Nat), i ≤ 3 ∧ iv = .int .i64 i ∧ sv = .int .i64 (sumW ws c i) ∧ ev = .bool (decide (0 < leastW ws c i))) (fun _ _ iv => 3 - (intOf iv).toNat)
      case atStart => exact ⟨0, by omega, rfl, rfl, by simp [leastW]⟩
      case round =>
        obtain ⟨i, hi, rfl, rfl, rfl⟩ := hrel
        by_cases hi3 : i < 3
        · obtain ⟨b, off, cc, k1, k2, k3⟩ := AT.out i hi3
          have e1 := (B.out.cell (p := ⟨g, i, none⟩) hgl).trans k1
          have e2 := (B.out.cell (p := ⟨b, off + c * 3, none⟩) k2).trans (k3 c hlt).1
          have hiI : (i : Int) < 3 := by omega
          have hv1 := EV.out i hi3 c hlt
          have hs1 := sumW_range (ws := ws) (c := c) (n := 3) (fun j hj => EV.out j hj c hlt) i hi
          obtain ⟨v, hv⟩ : ∃ v, evAt ws c i = v := ⟨_, rfl⟩
          obtain ⟨s, hs⟩ : ∃ s, sumW ws c i = s := ⟨_, rfl⟩
          have hs2 : sumW ws c (i + 1) = s + v := by simp only [sumW, hs, hv]
          have hl2 : (0 < leastW ws c (i + 1)) ↔ (0 < leastW ws c i ∧ 0 < v) := by rw [← hv]; simp only [leastW]; split <;> omega
          rw [hv] at e2 hv1
          rw [hs] at hs1 ⊢
          obtain ⟨s0, s1⟩ := hs1
          obtain ⟨v0, v1⟩ := hv1
          have HS2 := hid hs2
          have HL2 := hid hl2
          clear hs2 hl2 hs hv k1 k2 k3
          by_cases hl : 0 < leastW ws c i
          · have HL := hid hl
            have l1 : decide (0 < leastW ws c i) = true := by simp [hl]
            rw [l1]
            clear hl l1
            by_cases hv : 0 < v
            · have x1 : decide (0 < v) = true := by simp [hv]
              have HV := hid hv
              clear hv
              go_wp2_with fail
              go_round
              case rel =>
                refine ⟨i + 1, by omega, by go_num, by rw [HS2.out], ?_⟩
                rw [show decide (0 < leastW ws c (i + 1)) = true by rw [decide_eq_true_eq, HL2.out]; exact ⟨HL.out, HV.out⟩]
              case measure => simp [intOf]; omega
            · have x1 : decide (0 < v) = false := by simp; omega
              have HV := hid hv
              clear hv
              go_wp2_with fail
              go_round
              case rel =>
                refine ⟨i + 1, by omega, by go_num, by rw [HS2.out], ?_⟩
                rw [show decide (0 < leastW ws c (i + 1)) = false by rw [decide_eq_false_iff_not, HL2.out]; exact fun h => HV.out h.2]
              case measure => simp [intOf]; omega
          · have HL := hid hl
            have l1 : decide (0 < leastW ws c i) = false := by simpa using hl
            rw [l1]
            clear hl l1
            go_wp2_with fail
            go_round
            case rel =>
              refine ⟨i + 1, by omega, by go_num, by rw [HS2.out], ?_⟩
              rw [show decide (0 < leastW ws c (i + 1)) = false by rw [decide_eq_false_iff_not, HL2.out]; exact fun h => HL.out h.1]
            case measure => simp [intOf]; omega
        · obtain rfl : i = 3 := by omega
          clear hi hi3
          have hpos := sum_pos (ws := ws) (c := c)
          have hs1 := sumW_range (ws := ws) (c := c) (n := 3) (fun j hj => EV.out j hj c hlt) 3 (Nat.le_refl _)
          obtain ⟨b2, off2, cc2, k1, k2, k3⟩ := AT.out 2 (by omega)
          have e1 := (B.out.cell (p := ⟨g, 2, none⟩) hgl).trans k1
          have e2 := (B.out.cell (p := ⟨b2, off2 + c * 3 + 1, none⟩) k2).trans ((k3 c hlt).2 rfl).1
          have e3 := (B.out.cell (p := ⟨b2, off2 + c * 3 + 2, none⟩) k2).trans ((k3 c hlt).2 rfl).2
          have K2 := hid k2
          have K3 := hid k3
          clear k1 k2 k3
          obtain ⟨s, hs⟩ : ∃ s, sumW ws c 3 = s := ⟨_, rfl⟩
          obtain ⟨l, hl⟩ : ∃ l, leastW ws c 3 = l := ⟨_, rfl⟩
          obtain ⟨pg, hpg⟩ : ∃ x, pgAt ws c = x := ⟨_, rfl⟩
          obtain ⟨fr, hfr⟩ : ∃ x, frAt ws c = x := ⟨_, rfl⟩
          rw [hs, hl, hpg, hfr] at HSS
          rw [hs] at hs1 ⊢
          rw [hs, hl] at hpos
          rw [hl]
          rw [hpg] at e2
          rw [hfr] at e3
          obtain ⟨s0, s1⟩ := hs1
          have hcI : (c : Int) < 8 := by omega
          clear hs hl hpg hfr
          by_cases hA : 0 < l ∧ m < s
          · obtain ⟨hl0, hms⟩ := hA
            have s2 : 0 < s := hpos hl0
            have a1 : decide (0 < l) = true := by simp [hl0]
            have a2 : decide (m < s) = true := by simp [hms]
            have b1 : (s == 0) = false := by simp; omega
            have b2 : ¬ s = 0 := by omega
            have HA := hid (show 0 < l ∧ m < s from ⟨hl0, hms⟩)
            rw [a1]
            clear hl0 hms hpos a1
            go_upto_region 17 with fail
            go_quiet (fail)
            go_wp2_with fail
            go_roundw
            case rel =>
              refine ⟨c + 1, by omega, by go_num, ?_, ?_, ?_, (by first | exact B.out | exact Below.drewN' B.out _)⟩
              all_goals (rw [HSS.out, if_pos HA.out])
            case measure => simp [intOf]; omega
          · by_cases hl0 : 0 < l
            · have s2 : 0 < s := hpos hl0
              have hms : ¬ m < s := fun h => hA ⟨hl0, h⟩
              have a1 : decide (0 < l) = true := by simp [hl0]
              have a2 : decide (m < s) = false := by simp; omega
              have b1 : (s == 0) = false := by simp; omega
              have b2 : ¬ s = 0 := by omega
              have HNA := hid hA
              rw [a1]
              clear hA hl0 hms hpos a1
              go_upto_region 17 with fail
              go_quiet (fail)
              go_wp2_with fail
              go_roundw
              case rel =>
                refine ⟨c + 1, by omega, by go_num, ?_, ?_, ?_, (by first | exact B.out | exact Below.drewN' B.out _)⟩
                all_goals (rw [HSS.out, if_neg HNA.out, if_neg (fun h => by have := h.1; omega)])
              case measure => simp [intOf]; omega
            · have a1 : decide (0 < l) = false := by simp; omega
              have HNA := hid hA
              rw [a1]
              clear hA hl0 hpos a1
              by_cases hz : s = 0
              · by_cases hpp : 2 ≤ pg
                · by_cases hgv : gv = -1
                  · subst hgv
                    have b1 : (s == 0) = true := by simp [hz]
                    have b2 : decide (2 ≤ pg) = true := by simp [hpp]
                    have HP := hid hpp
                    have HZ := hid hz
                    clear hpp hz
                    go_upto_region 17 with fail
                    go_quiet (fail)
                    go_wp2_with fail
                    go_roundw
                    case rel =>
                      refine ⟨c + 1, by omega, by go_num, ?_, ?_, ?_, (by first | exact B.out | exact Below.drewN' B.out _)⟩
                      all_goals (rw [HSS.out, if_neg HNA.out, if_pos ⟨HZ.out, HP.out⟩, if_pos (.inl (by simp))])
                    case measure => simp [intOf]; omega
                  · obtain ⟨v, rfl⟩ : ∃ v : Nat, gv = v := ⟨gv.toNat, by omega⟩
                    have hvl : v < cl := by omega
                    have hvI : (v : Int) < cl := by omega
                    have e4 := (B.out.cell (p := ⟨b2, off2 + v * 3 + 2, none⟩) K2.out).trans ((K3.out v hvl).2 rfl).2
                    obtain ⟨fv, hfv⟩ : ∃ x, frAt ws v = x := ⟨_, rfl⟩
                    rw [hfv] at e4
                    have HFV := hid hfv
                    have b1 : (s == 0) = true := by simp [hz]
                    have b2 : decide (2 ≤ pg) = true := by simp [hpp]
                    have b3 : decide ((v : Int) < 0) = false := by first | (simp; done) | (simp; omega)
                    have hgn : ¬ (v : Int) = -1 := by omega
                    have HGN := hid hgn
                    have HP := hid hpp
                    have HZ := hid hz
                    clear hfv hgn hgv hpp hz
                    by_cases hfc : fv < fr
                    · have b4 : decide (fv < fr) = true := by simp [hfc]
                      have HF := hid hfc
                      clear hfc
                      go_upto_region 17 with fail
                      go_quiet (fail)
                      go_wp2_with fail
                      go_roundw
                      case rel =>
                        refine ⟨c + 1, by omega, by go_num, ?_, ?_, ?_, (by first | exact B.out | exact Below.drewN' B.out _)⟩
                        all_goals (rw [HSS.out, if_neg HNA.out, if_pos ⟨HZ.out, HP.out⟩, if_pos (.inr (by rw [Int.toNat_natCast, HFV.out]; exact HF.out))])
                      case measure => simp [intOf]; omega
                    · have b4 : decide (fv < fr) = false := by simp; omega
                      have HF := hid hfc
                      clear hfc
                      go_upto_region 17 with fail
                      go_quiet (fail)
                      go_wp2_with fail
                      go_roundw
                      case rel =>
                        refine ⟨c + 1, by omega, by go_num, ?_, ?_, ?_, (by first | exact B.out | exact Below.drewN' B.out _)⟩
                        all_goals (rw [HSS.out, if_neg HNA.out, if_pos ⟨HZ.out, HP.out⟩, if_neg (fun h => h.elim HGN.out (fun h => by rw [Int.toNat_natCast, HFV.out] at h; have := HF.out; omega))])
                      case measure => simp [intOf]; omega
                · have b1 : (s == 0) = true := by simp [hz]
                  have b2 : decide (2 ≤ pg) = false := by simp; omega
                  have HP := hid hpp
                  have HZ := hid hz
                  clear hpp hz
                  go_upto_region 17 with fail
                  go_quiet (fail)
                  go_wp2_with fail
                  go_roundw
                  case rel =>
                    refine ⟨c + 1, by omega, by go_num, ?_, ?_, ?_, (by first | exact B.out | exact Below.drewN' B.out _)⟩
                    all_goals (rw [HSS.out, if_neg HNA.out, if_neg (fun h => by have := HP.out; omega)])
                  case measure => simp [intOf]; omega
              · have b1 : (s == 0) = false := by simp [hz]
                have HZ := hid hz
                clear hz
                go_upto_region 17 with fail
                go_quiet (fail)
                go_wp2_with fail
                go_roundw
                case rel =>
                  refine ⟨c + 1, by omega, by go_num, ?_, ?_, ?_, (by first | exact B.out | exact Below.drewN' B.out _)⟩
                  all_goals (rw [HSS.out, if_neg HNA.out, if_neg (fun h => HZ.out h.1)])
                case measure => simp [intOf]; omega
    · obtain rfl : c = cl := by omega
      have DR := dec_range (ws := ws) c
      obtain ⟨gv, gt, m, hd⟩ : ∃ gv gt m, dec ws c = (gv, gt, m) := ⟨_, _, _, rfl⟩
      rw [hd] at DR ⊢
      simp only at DR
      obtain ⟨d1, d2, d3, d4⟩ := DR
      have HD := hid hd
      clear hlt hc hd
      have f1 := (B.out.frozen (p := ⟨q, 1, none⟩) hq).trans T.out.f1
      by_cases hgt : gt < 0
      · have b3 : decide (gt < 0) = true := by simp [hgt]
        have HGT := hid hgt
        clear d1 d2 d3 d4 hgt
        go_wp2_with fail
        go_ret3
        rw [HD.out]; exact .inr ⟨fun h => by have h1 := HGT.out; have h2 : 0 ≤ gt := h.2; omega, rfl, B.out⟩
      · have b3 : decide (gt < 0) = false := by simp; omega
        by_cases hgv : gv < 0
        · have b4 : decide (gv < 0) = true := by simp [hgv]
          have HGV := hid hgv
          clear d1 d2 d3 d4 hgt hgv
          go_wp2_with fail
          go_ret3
          rw [HD.out]; exact .inr ⟨fun h => by have h1 := HGV.out; have h2 : 0 ≤ gv := h.1; omega, rfl, B.out⟩
        · have b4 : decide (gv < 0) = false := by simp; omega
          have HGG := hid (show 0 ≤ gv ∧ 0 ≤ gt by omega)
          clear d1 d2 d3 d4 hgv hgt
          go_wp2_with fail
          go_ret3
          rw [HD.out]
          refine .inl ⟨HGG.out, rfl, ⟨by go_simp, by go_simp, by go_simp, World.ownsRow_nil _ _ _ _, fun x hx => absurd hx (by simp), fun x hx => absurd hx (by simp), by simp, T.out.qb⟩, (Only.of_below B.out).trans (Only.set q 1 wr _)⟩
end Go.Proofs.Ytkfpkgamjpdhaaa.Au

