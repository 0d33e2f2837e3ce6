/- ClockTicks: for every now and every row of numbers the program's clock answers as the document's. No condition. -/
import Derived.Test.YtkhbcmhonemhfaaInts
import Derived.Deep.RegionWith
import Derived.Deep.CutRange
import Derived.Deep.RegionHeld3
import Derived.Deep.DeepCutAuto
namespace Go.Proofs.Ytkhbcmhonemhfaa.Ck
open Go.RowKit
set_option linter.unusedVariables false
set_option linter.unusedSimpArgs false

theorem rsecond_any (a : Int) (w : World) :
    Calls Try.prog 20 #[.int .i64 a] w fun e w' => e = .returned (.bool (decide (1 ≤ a ∧ a ≤ 2147483647))) ∧ w = w' := by
  by_cases h : 1 ≤ a
  · go_enter Try.func20, Try.ntmps20
    go_wp2
    go_ret
    exact ⟨by simp [h], rfl⟩
  · go_enter Try.func20, Try.ntmps20
    go_wp2
    go_ret
    exact ⟨by simp; omega, rfl⟩
theorem rnew_yes (a : Int) (w : World) (h : 1 ≤ a ∧ a ≤ 2147483647) :
    Calls Try.prog 14 #[.int .i64 a] w fun e w' => e = .returned (.tuple #[.pointer (some ⟨w.heap.size, 0, none⟩), .int .i64 0]) ∧ w' = w.alloc (.cells #[.int .i64 a] 38) := by
  obtain ⟨h1, h2⟩ := h
  go_enter Try.func14, Try.ntmps14
  go_wp2_with (go_at_call 20; refine (rsecond_any _ _).mono ?_; rintro e w' ⟨rfl, rfl⟩)
  go_ret2
  exact ⟨rfl, rfl⟩
theorem rnew_no (a : Int) (w : World) (h : ¬ (1 ≤ a ∧ a ≤ 2147483647)) :
    Calls Try.prog 14 #[.int .i64 a] w fun e w' => e = .returned (.tuple #[.pointer none, .int .i64 1]) ∧ w = w' := by
  have h' : decide (1 ≤ a ∧ a ≤ 2147483647) = false := decide_eq_false h
  go_enter Try.func14, Try.ntmps14
  go_wp2_with (go_at_call 20; refine (rsecond_any _ _).mono ?_; rintro e w' ⟨rfl, rfl⟩)
  go_ret2
  exact ⟨rfl, rfl⟩
theorem rtick_no (p : Nat) (n t : Int) (w : World) (h : w.cell? ⟨p, 0, none⟩ = some (.int .i64 n)) (h0 : 0 ≤ n) (h1 : n ≤ 2147483647) (ht : t < 0 ∨ 2147483647 - n < t) :
    Calls Try.prog 16 #[.pointer (some ⟨p, 0, none⟩), .int .i64 t] w fun e w' => e = .returned (.int .i64 1) ∧ w = w' := by
  by_cases hneg : t < 0
  · clear ht
    go_enter Try.func16, Try.ntmps16
    go_wp2
    go_ret
    exact ⟨rfl, rfl⟩
  · have ht : 2147483647 - n < t := by omega
    go_enter Try.func16, Try.ntmps16
    go_wp2
    go_ret
    exact ⟨rfl, rfl⟩
theorem rtick_yes (p : Nat) (n t : Int) (w : World) (h : w.cell? ⟨p, 0, none⟩ = some (.int .i64 n)) (hf : w.frozen? ⟨p, 0, none⟩ = false) (h0 : 0 ≤ n) (h1 : n ≤ 2147483647) (ht : 0 ≤ t) (ht1 : t ≤ 2147483647 - n) :
    Calls Try.prog 16 #[.pointer (some ⟨p, 0, none⟩), .int .i64 t] w fun e w' => e = .returned (.int .i64 0) ∧ w' = w.setCell ⟨p, 0, none⟩ (.int .i64 (n + t)) := by
  have ht2 : t ≤ 2147483647 := by omega
  have ht3 : n + t ≤ 2147483647 := by omega
  go_enter Try.func16, Try.ntmps16
  go_wp2
  go_ret
  exact ⟨rfl, rfl⟩

def TickRel (W : World) (t : Int) (wr : World) : Prop :=
  0 ≤ t ∧ t ≤ 2147483647 ∧ wr.cell? ⟨W.heap.size, 0, none⟩ = some (.int .i32 t) ∧ wr.cell? ⟨W.heap.size + 1, 0, none⟩ = some (.int .i64 t)
    ∧ wr.frozen? ⟨W.heap.size, 0, none⟩ = false ∧ wr.frozen? ⟨W.heap.size + 1, 0, none⟩ = false ∧ Below W.heap.size W wr ∧ W.heap.size + 2 ≤ wr.heap.size
theorem tick_close (W wr : World) (t z : Int) (h : TickRel W t wr) (h0 : 0 ≤ z) (h1 : z ≤ 2147483647 - t) :
    TickRel W (t + z) ((wr.setCell ⟨W.heap.size, 0, none⟩ (.int .i32 (t + z))).setCell ⟨W.heap.size + 1, 0, none⟩ (.int .i64 (t + z))).drew := by
  obtain ⟨t0, t1, c1, c2, f1, f2, hb, hs⟩ := h
  exact ⟨by omega, by omega, by go_simp, by go_simp, by go_simp, by go_simp, ((hb.setCell (Nat.le_refl _) _).setCell (by simp) _).drew, by simpa [World.setCell] using hs⟩
theorem tick_drew (W wr : World) (t : Int) (h : TickRel W t wr) : TickRel W t wr.drew := by
  obtain ⟨t0, t1, c1, c2, f1, f2, hb, hs⟩ := h
  exact ⟨t0, t1, c1, c2, f1, f2, hb.drew, hs⟩

set_option maxHeartbeats 8000000 in
theorem ticks_law (now : Int) (A : Option Addr) (n c : Nat) (zs : List Int) (w : World) (hl : IsInts w A n zs) (hn : n ≤ 9223372036854775807) :
    Calls Try.prog 4 #[.int .i64 now, .slice A n c] w fun e w' => e = .returned (.bool true) ∧ Below w.heap.size w w' := by
  by_cases hv : 1 ≤ now ∧ now ≤ 2147483647
  · have HL := hid hl
    have HV := hid hv
    clear hl hv
    go_enter Try.func4, Try.ntmps4
    go_wp2_with fail
    refine (new_yes now _ HV.out).mono ?_; rintro e w' ⟨rfl, rfl⟩
    go_wp2_with fail
    refine (rnew_yes now _ HV.out).mono ?_; rintro e w' ⟨rfl, rfl⟩
    go_wp2_with fail
    go_loopw [9] (fun i wr => ∃ (k : Nat) (t : Int), k ≤ n ∧ i = .int .i64 k ∧ TickRel w t wr) (fun i _ => n - (intOf i).toNat)
    case atStart =>
      refine ⟨0, now, Nat.zero_le _, rfl, by have := HV.out; omega, by have := HV.out; omega, by go_simp, by go_simp, by go_simp, by go_simp, ((Below.refl _ _).alloc (Nat.le_refl _) _).alloc (by simp) _, by simp⟩
    case round =>
      obtain ⟨k, t, hk, rfl, hrel⟩ := hrel
      have HR := hid hrel
      obtain ⟨t0, t1, c1, c2, f1, f2, hb, hs⟩ := hrel
      have HB := hid hb
      clear hb
      by_cases hlt : k < n
      · by_cases h100 : k < 100
        · obtain ⟨b, off, hA, hb, hc⟩ : ∃ b off, A = some ⟨b, off, none⟩ ∧ b < w.heap.size ∧ ∀ i, i < n → w.cell? ⟨b, off + i, none⟩ = some (.int .i64 (zs.getD i 0)) := by
            rcases HL.out with ⟨_, h0 | h⟩
            · omega
            · exact h
          subst hA
          have HC := hid hc
          clear hc
          obtain ⟨z, hz⟩ : ∃ z, zs.getD k 0 = z := ⟨_, rfl⟩
          have ha := HC.out k hlt
          rw [hz] at ha
          have ha1 : wr.cell? ⟨b, off + k, none⟩ = some (.int .i64 z) := (HB.out.cell (p := ⟨b, off + k, none⟩) hb).trans ha
          clear ha hz
          by_cases hr : z < 0 ∨ 2147483647 - t < z
          · go_wp2_with fail
            go_cut [73] (fun v wx => v = .bool false ∧ TickRel w t wx)
            case first =>
              have HQ := hid hr
              clear hr
              go_region_held3 (fun w' => w'.cell? ⟨b, off + k, none⟩ = some (.int .i64 z) ∧ w'.cell? ⟨w.heap.size + 1, 0, none⟩ = some (.int .i64 t)) (go_keep) (first
                | (go_at_call 15; ((with_reducible refine (tick_no _ t z _ ?_ t0 t1 HQ.out).mono ?_)); (focus (go_simp; done)); rintro e w' ⟨rfl, rfl⟩)
                | (go_at_call 16; ((with_reducible refine (rtick_no _ t z _ ?_ t0 t1 HQ.out).mono ?_)); (focus (go_simp; done)); rintro e w' ⟨rfl, rfl⟩)
                | (go_at_call 17; ((with_reducible refine (now_any _ t _ ?_ t0 t1).mono ?_)); (focus (go_simp; done)); rintro e w' ⟨rfl, rfl⟩))
              all_goals (try go_wp2_with fail)
              all_goals go_meet
              all_goals exact ⟨rfl, tick_drew _ _ _ HR.out⟩
            case rest =>
              obtain ⟨rfl, hcut⟩ := hcut
              have HB' := hid hcut
              clear hcut
              go_wp2_with fail
              go_roundw
              case rel => exact ⟨k + 1, t, by omega, by go_num, HB'.out⟩
              case measure => simp [intOf]; omega
          · have hr0 : 0 ≤ z := by omega
            have hr1 : z ≤ 2147483647 - t := by omega
            have hr2 : t + z ≤ 2147483647 := by omega
            have hne : w.heap.size ≠ b := by omega
            have hne1 : w.heap.size + 1 ≠ b := by omega
            clear hr
            go_wp2_with fail
            go_cut [73] (fun v wx => v = .bool false ∧ TickRel w (t + z) wx)
            case first =>
              go_region_with (first
                | (go_at_call 15; ((with_reducible refine (tick_yes _ t z _ ?_ ?_ t0 t1 hr0 hr1).mono ?_)); (focus (go_simp; done)); (focus (go_simp; done)); rintro e w' ⟨rfl, rfl⟩)
                | (go_at_call 16; ((with_reducible refine (rtick_yes _ t z _ ?_ ?_ t0 t1 hr0 hr1).mono ?_)); (focus (go_simp; done)); (focus (go_simp; done)); rintro e w' ⟨rfl, rfl⟩)
                | (go_at_call 17; ((with_reducible refine (now_any _ (t + z) _ ?_ (by omega) hr2).mono ?_)); (focus (go_simp; done)); rintro e w' ⟨rfl, rfl⟩))
              all_goals (try go_wp2_with fail)
              all_goals go_meet
              all_goals exact ⟨rfl, tick_close _ _ _ _ HR.out hr0 hr1⟩
            case rest =>
              obtain ⟨rfl, hcut⟩ := hcut
              have HB' := hid hcut
              clear hcut
              go_wp2_with fail
              go_roundw
              case rel => exact ⟨k + 1, t + z, by omega, by go_num, HB'.out⟩
              case measure => simp [intOf]; omega
        · go_wp2_with fail
          go_quiet ((go_at_call 17; exact Calls.quiet_of_same ((now_any _ t _ (by go_simp) t0 t1).mono fun e w' h => ⟨h.1, h.2.symm⟩)))
          go_wp2
          go_ret
          exact ⟨rfl, HB.out.trans ⟨rfl, rfl, rfl, Nat.le_refl _, fun _ _ => rfl⟩⟩
      · obtain rfl : k = n := by omega
        go_wp2_with fail
        go_quiet ((go_at_call 17; exact Calls.quiet_of_same ((now_any _ t _ (by go_simp) t0 t1).mono fun e w' h => ⟨h.1, h.2.symm⟩)))
        go_wp2
        go_ret
        exact ⟨rfl, HB.out.trans ⟨rfl, rfl, rfl, Nat.le_refl _, fun _ _ => rfl⟩⟩
  · go_enter Try.func4, Try.ntmps4
    go_wp2_with fail
    refine (new_no now _ hv).mono ?_; rintro e w' ⟨rfl, rfl⟩
    go_wp2_with fail
    refine (rnew_no now _ hv).mono ?_; rintro e w' ⟨rfl, rfl⟩
    go_wp2_with fail
    go_ret
    exact ⟨rfl, Below.refl _ _⟩
end Go.Proofs.Ytkhbcmhonemhfaa.Ck
