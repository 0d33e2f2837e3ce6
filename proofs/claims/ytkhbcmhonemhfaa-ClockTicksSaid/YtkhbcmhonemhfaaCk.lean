/- The clock's functions, one contract each: what a call of New, Now, Tick, Ends, Gone (and of the document's own) comes to; the statement's `works` returns true. Conditions: those that each contract names. -/
import Derived.Test.YtkhbcmhonemhfaaProg
import Derived.WalkKit
import Derived.Deep.QuietTactic
import Derived.BigQuiet
namespace Go.Proofs.Ytkhbcmhonemhfaa.Ck
open Go.RowKit
set_option linter.unusedVariables false
set_option linter.unusedSimpArgs false
theorem hid {p : Prop} (h : p) : Hid p := h

theorem second_any (a : Int) (w : World) :
    Calls Try.prog 19 #[.int .i64 a] w fun e w' => e = .returned (.bool (decide (1 ≤ a ∧ a ≤ 2147483647))) ∧ w = w' := by
  by_cases h : 1 ≤ a
  · go_enter Try.func19, Try.ntmps19
    go_wp2
    go_ret
    exact ⟨by simp [h], rfl⟩
  · go_enter Try.func19, Try.ntmps19
    go_wp2
    go_ret
    exact ⟨by simp; omega, rfl⟩

theorem new_yes (a : Int) (w : World) (h : 1 ≤ a ∧ a ≤ 2147483647) :
    Calls Try.prog 13 #[.int .i64 a] w fun e w' => e = .returned (.tuple #[.pointer (some ⟨w.heap.size, 0, none⟩), .int .i64 0]) ∧ w' = w.alloc (.cells #[.int .i32 a] 46) := by
  obtain ⟨h1, h2⟩ := h
  go_enter Try.func13, Try.ntmps13
  go_wp2_with (go_at_call 19; refine (second_any _ _).mono ?_; rintro e w' ⟨rfl, rfl⟩)
  go_ret2
  exact ⟨rfl, rfl⟩
theorem new_no (a : Int) (w : World) (h : ¬ (1 ≤ a ∧ a ≤ 2147483647)) :
    Calls Try.prog 13 #[.int .i64 a] w fun e w' => e = .returned (.tuple #[.pointer none, .int .i64 1]) ∧ w = w' := by
  have h' : decide (1 ≤ a ∧ a ≤ 2147483647) = false := decide_eq_false h
  go_enter Try.func13, Try.ntmps13
  go_wp2_with (go_at_call 19; refine (second_any _ _).mono ?_; rintro e w' ⟨rfl, rfl⟩)
  go_ret2
  exact ⟨rfl, rfl⟩

theorem now_any (p : Nat) (n : Int) (w : World) (h : w.cell? ⟨p, 0, none⟩ = some (.int .i32 n)) (h0 : 0 ≤ n) (h1 : n ≤ 2147483647) :
    Calls Try.prog 17 #[.pointer (some ⟨p, 0, none⟩)] w fun e w' => e = .returned (.int .i64 n) ∧ w = w' := by
  go_enter Try.func17, Try.ntmps17
  go_wp2
  go_ret
  exact ⟨rfl, rfl⟩

/-- Tick, refused. -/
theorem tick_no (p : Nat) (n t : Int) (w : World) (h : w.cell? ⟨p, 0, none⟩ = some (.int .i32 n)) (h0 : 0 ≤ n) (h1 : n ≤ 2147483647) (ht : t < 0 ∨ 2147483647 - n < t) :
    Calls Try.prog 15 #[.pointer (some ⟨p, 0, none⟩), .int .i64 t] w fun e w' => e = .returned (.int .i64 1) ∧ w = w' := by
  by_cases hneg : t < 0
  · clear ht
    go_enter Try.func15, Try.ntmps15
    go_wp2
    go_ret
    exact ⟨rfl, rfl⟩
  · have ht : 2147483647 - n < t := by omega
    go_enter Try.func15, Try.ntmps15
    go_wp2
    go_ret
    exact ⟨rfl, rfl⟩
theorem tick_yes (p : Nat) (n t : Int) (w : World) (h : w.cell? ⟨p, 0, none⟩ = some (.int .i32 n)) (hf : w.frozen? ⟨p, 0, none⟩ = false) (h0 : 0 ≤ n) (h1 : n ≤ 2147483647) (ht : 0 ≤ t) (ht1 : t ≤ 2147483647 - n) :
    Calls Try.prog 15 #[.pointer (some ⟨p, 0, none⟩), .int .i64 t] w fun e w' => e = .returned (.int .i64 0) ∧ w' = w.setCell ⟨p, 0, none⟩ (.int .i32 (n + t)) := by
  have ht2 : t ≤ 2147483647 := by omega
  have ht3 : n + t ≤ 2147483647 := by omega
  go_enter Try.func15, Try.ntmps15
  go_wp2
  go_ret
  exact ⟨rfl, rfl⟩


def endsOf (now exp : Int) : Int := if exp < 0 then 1 else if 0 < exp ∧ exp ≤ 2592000 then exp + now else if exp ≤ 4294967295 then exp else 4294967295
theorem endsOf_range (now exp : Int) (h1 : 1 ≤ now) (h2 : now ≤ 2147483647) : 0 ≤ endsOf now exp ∧ endsOf now exp ≤ 4294967295 := by
  unfold endsOf; repeat' split
  all_goals omega
theorem ret2_int {j k : IntKind} {a b c d : Int} (h : a = b) (h' : c = d) : Ending.returned (.tuple #[.int j a, .int k c]) = .returned (.tuple #[.int j b, .int k d]) := by rw [h, h']
theorem ends_no (now exp : Int) (w : World) (h : ¬ (1 ≤ now ∧ now ≤ 2147483647)) :
    Calls Try.prog 9 #[.int .i64 now, .int .i64 exp] w fun e w' => e = .returned (.tuple #[.int .u32 0, .int .i64 1]) ∧ w = w' := by
  have h' : decide (1 ≤ now ∧ now ≤ 2147483647) = false := decide_eq_false h
  go_enter Try.func9, Try.ntmps9
  go_wp2_with (go_at_call 19; refine (second_any _ _).mono ?_; rintro e w' ⟨rfl, rfl⟩)
  go_ret2
  exact ⟨rfl, rfl⟩
theorem ends_yes (now exp : Int) (w : World) (h1 : 1 ≤ now) (h2 : now ≤ 2147483647) :
    Calls Try.prog 9 #[.int .i64 now, .int .i64 exp] w fun e w' => e = .returned (.tuple #[.int .u32 (endsOf now exp), .int .i64 0]) ∧ w = w' := by
  by_cases a : exp < 0
  · go_enter Try.func9, Try.ntmps9
    go_wp2_with (go_at_call 19; refine (second_any _ _).mono ?_; rintro e w' ⟨rfl, rfl⟩)
    go_ret2
    exact ⟨ret2_int (by unfold endsOf; rw [if_pos a]) rfl, rfl⟩
  · by_cases b : 0 < exp ∧ exp ≤ 2592000
    · have hv : endsOf now exp = exp + now := by unfold endsOf; rw [if_neg a, if_pos b]
      have HV := hid hv
      clear hv
      obtain ⟨b1, b2⟩ := b
      have b3 : ¬ 4294967295 < exp + now := by omega
      have b4 : exp + now ≤ 4294967295 := by omega
      go_enter Try.func9, Try.ntmps9
      go_wp2_with (go_at_call 19; refine (second_any _ _).mono ?_; rintro e w' ⟨rfl, rfl⟩)
      go_ret2
      exact ⟨ret2_int HV.out.symm rfl, rfl⟩
    · by_cases c : exp ≤ 4294967295
      · have hv : endsOf now exp = exp := by unfold endsOf; rw [if_neg a, if_neg b, if_pos c]
        have HV := hid hv
        clear hv
        have hb : (decide (0 < exp) && decide (exp ≤ 2592000)) = false := by simp; omega
        have b3 : ¬ 4294967295 < exp := by omega
        by_cases d : 0 < exp
        · have d' : ¬ exp ≤ 2592000 := by omega
          clear b hb
          go_enter Try.func9, Try.ntmps9
          go_wp2_with (go_at_call 19; refine (second_any _ _).mono ?_; rintro e w' ⟨rfl, rfl⟩)
          go_ret2
          exact ⟨ret2_int HV.out.symm rfl, rfl⟩
        · clear b hb
          go_enter Try.func9, Try.ntmps9
          go_wp2_with (go_at_call 19; refine (second_any _ _).mono ?_; rintro e w' ⟨rfl, rfl⟩)
          go_ret2
          exact ⟨ret2_int HV.out.symm rfl, rfl⟩
      · have hv : endsOf now exp = 4294967295 := by unfold endsOf; rw [if_neg a, if_neg b, if_neg c]
        have HV := hid hv
        have b3 : 4294967295 < exp := by omega
        have b4 : 0 < exp := by omega
        have b5 : ¬ exp ≤ 2592000 := by omega
        clear hv b c
        go_enter Try.func9, Try.ntmps9
        go_wp2_with (go_at_call 19; refine (second_any _ _).mono ?_; rintro e w' ⟨rfl, rfl⟩)
        go_ret2
        exact ⟨ret2_int HV.out.symm rfl, rfl⟩

theorem gone_any (x now : Int) (w : World) (h1 : 0 ≤ x) (h2 : x ≤ 4294967295) :
    Calls Try.prog 11 #[.int .u32 x, .int .i64 now] w fun e w' => e = .returned (.bool (decide (0 < x ∧ x ≤ now))) ∧ w = w' := by
  by_cases h : 0 < x
  · go_enter Try.func11, Try.ntmps11
    go_wp2
    go_ret
    exact ⟨by simp; omega, rfl⟩
  · go_enter Try.func11, Try.ntmps11
    go_wp2
    go_ret
    exact ⟨by simp; omega, rfl⟩

set_option maxHeartbeats 800000 in
theorem works_any (w : World) :
    Calls Try.prog 18 #[] w fun e w' => e = .returned (.bool true) ∧ Below w.heap.size w w' := by
  go_enter Try.func18, Try.ntmps18
  go_wp2_with fail
  refine (ends_yes 1000 5 _ (by omega) (by omega)).mono ?_; rintro e w' ⟨rfl, rfl⟩
  rw [show endsOf 1000 5 = 1005 from rfl]
  go_wp2_with fail
  refine (ends_yes 1000 3000000 _ (by omega) (by omega)).mono ?_; rintro e w' ⟨rfl, rfl⟩
  rw [show endsOf 1000 3000000 = 3000000 from rfl]
  go_wp2_with fail
  refine (ends_yes 1000 (-1) _ (by omega) (by omega)).mono ?_; rintro e w' ⟨rfl, rfl⟩
  rw [show endsOf 1000 (-1) = 1 from rfl]
  go_wp2_with fail
  refine (ends_no 0 5 _ (by omega)).mono ?_; rintro e w' ⟨rfl, rfl⟩
  go_wp2_with fail
  refine (new_yes 7 _ (by omega)).mono ?_; rintro e w' ⟨rfl, rfl⟩
  go_wp2_with fail
  refine (gone_any 1005 1004 _ (by omega) (by omega)).mono ?_; rintro e w' ⟨rfl, rfl⟩
  go_wp2_with fail
  refine (gone_any 1005 1005 _ (by omega) (by omega)).mono ?_; rintro e w' ⟨rfl, rfl⟩
  go_wp2_with fail
  refine (gone_any 0 2147483647 _ (by omega) (by omega)).mono ?_; rintro e w' ⟨rfl, rfl⟩
  go_wp2_with fail
  refine (tick_yes _ 7 3 _ (by go_simp) (by go_simp) (by omega) (by omega) (by omega) (by omega)).mono ?_; rintro e w' ⟨rfl, rfl⟩
  go_wp2_with fail
  refine (now_any _ 10 _ (by go_simp) (by omega) (by omega)).mono ?_; rintro e w' ⟨rfl, rfl⟩
  go_wp2_with fail
  refine (tick_no _ 10 (-1) _ (by go_simp) (by omega) (by omega) (by omega)).mono ?_; rintro e w' ⟨rfl, rfl⟩
  go_wp2_with fail
  go_ret
  exact ⟨rfl, (Below.refl _ _).alloc (Nat.le_refl _) _⟩

end Go.Proofs.Ytkhbcmhonemhfaa.Ck

