/- ClockSteps: for every now and every row of numbers the call returns true. No condition. -/
import Derived.Test.YtkhbcmhonemhfaaInts
import Derived.Deep.RegionWith
import Derived.Deep.CutRange
import Derived.Deep.RegionHeld3
import Derived.Deep.DeepCutAuto
namespace Go.Proofs.Ytkhbcmhonemhfaa.Ck
open Go.RowKit
set_option linter.unusedVariables false
set_option linter.unusedSimpArgs false
/-- The two clocks in the middle: the one has gone on by sum. -/
def StepRel (W : World) (B : Nat) (s t : Int) (wr : World) : Prop :=
  wr.cell? ⟨B, 0, none⟩ = some (.int .i32 t) ∧ wr.cell? ⟨B + 1, 0, none⟩ = some (.int .i32 s)
    ∧ wr.frozen? ⟨B, 0, none⟩ = false ∧ wr.frozen? ⟨B + 1, 0, none⟩ = false ∧ Below W.heap.size W wr ∧ B + 2 ≤ wr.heap.size ∧ W.heap.size ≤ B

theorem step_close (W wr : World) (B : Nat) (s t z : Int) (h : StepRel W B s t wr) : StepRel W B s (t + z) (wr.setCell ⟨B, 0, none⟩ (.int .i32 (t + z))) := by
  obtain ⟨c1, c2, f1, f2, hb, hs, h2⟩ := h
  exact ⟨by go_simp, by go_simp, by go_simp, by go_simp, hb.setCell h2 _, by simpa [World.setCell] using hs, h2⟩

set_option maxHeartbeats 1000000 in
theorem steps_law (now : Int) (A : Option Addr) (n c : Nat) (zs : List Int) (w : World) (hl : IsInts w A n zs) (hn : n ≤ 9223372036854775807) :
    Calls Try.prog 8 #[.int .i64 now, .slice A n c] w fun e w' => e = .returned (.bool true) ∧ Below w.heap.size w w' := by
  have HL := hid hl
  clear hl
  obtain ⟨s, es, s0, s1⟩ := modu1 now 1073741824 (by omega) (by omega)
  have ES := hid es; clear es
  go_enter Try.func8, Try.ntmps8
  go_wp2_with fail
  refine (works_any _).mono ?_; rintro e w1 ⟨rfl, hb1⟩
  have HB1 := hid hb1
  have hsz1 := hb1.size
  clear hb1
  go_wp2_with fail
  rw [ES.out]
  refine (new_yes s _ (by omega)).mono ?_; rintro e w' ⟨rfl, rfl⟩
  go_wp2_with fail
  refine (new_yes s _ (by omega)).mono ?_; rintro e w' ⟨rfl, rfl⟩
  go_wp2_with fail
  go_loopw [9, 10] (fun sm i wr => ∃ (k : Nat) (m : Int), k ≤ n ∧ k ≤ 100 ∧ i = .int .i64 k ∧ sm = .int .i64 m ∧ 0 ≤ m ∧ m ≤ 10000 * (k : Int) ∧ StepRel w w1.heap.size s (s + m) wr) (fun _ i _ => n - (intOf i).toNat)
  case atStart =>
    refine ⟨0, 0, Nat.zero_le _, by omega, rfl, rfl, by omega, by omega, by go_simp, by go_simp, by go_simp, by go_simp, (HB1.out.alloc hsz1 _).alloc (by simp; omega) _, by simp, hsz1⟩
  case round =>
    obtain ⟨k, m, hk, hk1, rfl, rfl, m0, m1, hrel⟩ := hrel
    have HR := hid hrel
    obtain ⟨c1, c2, f1, f2, hb, hs, h2⟩ := hrel
    have HB := hid hb
    clear hb
    have t0 : 0 ≤ s + m := by omega
    have t1 : s + m ≤ 1074741824 := by omega
    by_cases hlt : k < n
    · by_cases h100 : k < 100
      · obtain ⟨b, off, hA, hb, hc⟩ : ∃ b off, A = some ⟨b, off, none⟩ ∧ b < w.heap.size ∧ ∀ i, i < n → w.cell? ⟨b, off + i, none⟩ = some (.int .i64 (zs.getD i 0)) := by
          rcases HL.out with ⟨_, h0 | h⟩
          · omega
          · exact h
        subst hA
        have HC := hid hc
        clear hc
        obtain ⟨z, hz⟩ : ∃ z, zs.getD k 0 = z := ⟨_, rfl⟩
        have ha := HC.out k hlt
        rw [hz] at ha
        have ha1 : wr.cell? ⟨b, off + k, none⟩ = some (.int .i64 z) := (HB.out.cell (p := ⟨b, off + k, none⟩) hb).trans ha
        clear ha hz
        obtain ⟨y, ey, y0, y1⟩ := modu z 10000 (by omega) (by omega)
        have EY := hid ey; clear ey
        have y2 : s + m + y ≤ 1074751824 := by omega
        have ys : m + y ≤ 1010000 := by omega
        go_wp2_with fail
        rw [EY.out]
        refine (tick_yes _ (s + m) y _ (by go_simp) (by go_simp) t0 (by omega) y0 (by omega)).mono ?_; rintro e w' ⟨rfl, rfl⟩
        have HR2 := hid (step_close _ _ _ _ _ y HR.out)
        have yn : -1 - y < 0 := by omega
        go_wp2_with fail
        refine (tick_no _ (s + m + y) (-1 - y) _ (by go_simp) (by omega) (by omega) (.inl yn)).mono ?_; rintro e w' ⟨rfl, rfl⟩
        go_wp2_with fail
        go_roundw
        case rel => exact ⟨k + 1, m + y, by omega, by omega, by go_num, by go_num, by omega, by omega, by rw [← Int.add_assoc]; exact HR2.out⟩
        case measure => simp [intOf]; omega
      · go_wp2_with fail
        refine (tick_yes _ s m _ (by go_simp) (by go_simp) (by omega) (by omega) m0 (by omega)).mono ?_; rintro e w' ⟨rfl, rfl⟩
        have ts : s + m ≤ 2147483647 := by omega
        go_wp2_with fail
        refine (now_any _ (s + m) _ (by go_simp) t0 ts).mono ?_; rintro e w' ⟨rfl, rfl⟩
        go_wp2_with fail
        refine (now_any _ (s + m) _ (by go_simp) t0 ts).mono ?_; rintro e w' ⟨rfl, rfl⟩
        go_wp2_with fail
        refine (now_any _ (s + m) _ (by go_simp) t0 ts).mono ?_; rintro e w' ⟨rfl, rfl⟩
        go_wp2_with fail
        go_ret
        exact ⟨rfl, HB.out.setCell (by simp; omega) _⟩
    · obtain rfl : k = n := by omega
      go_wp2_with fail
      refine (tick_yes _ s m _ (by go_simp) (by go_simp) (by omega) (by omega) m0 (by omega)).mono ?_; rintro e w' ⟨rfl, rfl⟩
      have ts : s + m ≤ 2147483647 := by omega
      go_wp2_with fail
      refine (now_any _ (s + m) _ (by go_simp) t0 ts).mono ?_; rintro e w' ⟨rfl, rfl⟩
      go_wp2_with fail
      refine (now_any _ (s + m) _ (by go_simp) t0 ts).mono ?_; rintro e w' ⟨rfl, rfl⟩
      go_wp2_with fail
      refine (now_any _ (s + m) _ (by go_simp) t0 ts).mono ?_; rintro e w' ⟨rfl, rfl⟩
      go_wp2_with fail
      go_ret
      exact ⟨rfl, HB.out.setCell (by simp; omega) _⟩
end Go.Proofs.Ytkhbcmhonemhfaa.Ck
