/- Locks: Try and Holder. Conditions: those that each contract names. -/
import Derived.Test.YtpemlpahpbpbeaaHeld
namespace Go.Proofs.Ytpemlpahpbpbeaa.Lk
open Go.RowKit
set_option linter.unusedVariables false
set_option linter.unusedSimpArgs false

/-- Does who hold a lock from that one on? -/
def above (bs : List Int) (who : Int) (lock : Nat) : Bool := (List.range 5).any (fun i : Nat => decide (lock ≤ i) && bs.getD i 0 == who)
theorem above_yes {bs : List Int} {who : Int} {lock i : Nat} (hi : i < 5) (hl : lock ≤ i) (h : bs.getD i 0 = who) : above bs who lock = true := by
  unfold above
  rw [List.any_eq_true]
  refine ⟨i, by simpa using hi, ?_⟩
  have h' : bs[i]?.getD 0 = who := by simpa using h
  simp [hl, h']
theorem above_no {bs : List Int} {who : Int} {lock : Nat} (h : ∀ i, i < 5 → lock ≤ i → bs.getD i 0 ≠ who) : above bs who lock = false := by
  unfold above
  rw [List.any_eq_false]
  intro i hi
  have hi' : i < 5 := by simpa using hi
  by_cases hl : lock ≤ i
  · have := h i hi' hl
    have h' : ¬ bs[i]?.getD 0 = who := by simpa using this
    simp [h']
  · simp [hl]
def right (who lock : Int) : Prop := (0 ≤ who ∧ who < 16) ∧ (0 ≤ lock ∧ lock < 5)
instance (who lock : Int) : Decidable (right who lock) := by unfold right; infer_instance
def tryE (bs : List Int) (who lock : Int) : Int := if ¬ right who lock then 1 else if above bs who lock.toNat = true then 5 else if bs.getD lock.toNat 0 ≠ -1 then 8 else 0
def tryB (bs : List Int) (who lock : Int) : List Int := if tryE bs who lock = 0 then bs.set lock.toNat who else bs

theorem try_wrong (p : Nat) (who lock : Int) (w : World) (h : ¬ right who lock) :
    Calls Try.prog 7 #[.pointer (some ⟨p, 0, none⟩), .int .i64 who, .int .i64 lock] w fun e w' => e = .returned (.int .i64 1) ∧ w = w' := by
  by_cases h1 : 0 ≤ who ∧ who < 16
  · have h2 : ¬ (0 ≤ lock ∧ lock < 5) := fun h2 => h ⟨h1, h2⟩
    have d1 := hid (decide_eq_true h1)
    have d2 := hid (decide_eq_false h2)
    clear h h1 h2
    go_enter Try.func7, Try.ntmps7
    go_wp2_with (first
          | (go_at_call 21; refine (person_any _ _).mono ?_; rintro e w' ⟨rfl, rfl⟩; rw [d1.out])
          | (go_at_call 22; refine (there_any _ _).mono ?_; rintro e w' ⟨rfl, rfl⟩; rw [d2.out]))
    go_ret
    exact ⟨rfl, rfl⟩
  · have d1 := hid (decide_eq_false h1)
    clear h h1
    go_enter Try.func7, Try.ntmps7
    go_wp2_with (go_at_call 21; refine (person_any _ _).mono ?_; rintro e w' ⟨rfl, rfl⟩; rw [d1.out])
    go_ret
    exact ⟨rfl, rfl⟩
def TryPost (p : Nat) (bs : List Int) (who : Int) (lock : Nat) (w : World) (e : Ending) (w' : World) : Prop :=
  (above bs who lock = true ∧ e = .returned (.int .i64 5) ∧ w = w') ∨ (above bs who lock = false ∧ bs.getD lock 0 ≠ -1 ∧ e = .returned (.int .i64 8) ∧ w = w') ∨
      (above bs who lock = false ∧ bs.getD lock 0 = -1 ∧ e = .returned (.int .i64 0) ∧ w' = w.setCell ⟨p, lock, none⟩ (.int .i64 who))
set_option maxHeartbeats 800000 in
theorem try_right (p : Nat) (bs : List Int) (who : Int) (lock : Nat) (w : World) (h : Five 48 w p bs) (h0 : 0 ≤ who ∧ who < 16) (h1 : lock < 5) :
    Calls Try.prog 7 #[.pointer (some ⟨p, 0, none⟩), .int .i64 who, .int .i64 lock] w (TryPost p bs who lock w) := by
  have H := hid h
  clear h
  have d1 := hid (decide_eq_true h0)
  have d2 := hid (decide_eq_true (show 0 ≤ (lock : Int) ∧ (lock : Int) < 5 by omega))
  have h1' : (lock : Int) ≤ 5 := by omega
  go_enter Try.func7, Try.ntmps7
  go_wp2_with (first
        | (go_at_call 21; refine (person_any _ _).mono ?_; rintro e w' ⟨rfl, rfl⟩; rw [d1.out])
        | (go_at_call 22; refine (there_any _ _).mono ?_; rintro e w' ⟨rfl, rfl⟩; rw [d2.out]))
  go_loop [23] (fun i => ∃ j : Nat, j ≤ 5 - lock ∧ i = .int .i64 j ∧ Hid (∀ k, k < j → bs.getD (lock + k) 0 ≠ who)) (fun i => 5 - lock - (intOf i).toNat)
  case atStart => exact ⟨0, by omega, rfl, hid (fun k hk => absurd hk (by omega))⟩
  case round =>
    obtain ⟨j, hj, rfl, HF⟩ := hrel
    by_cases hlt : j < 5 - lock
    · have hc := H.out.cell (lock + j) (by omega)
      obtain ⟨y, hy⟩ : ∃ y, bs.getD (lock + j) 0 = y := ⟨_, rfl⟩
      rw [hy] at hc
      have HY := hid hy
      clear hy
      by_cases he : y = who
      · have hb1 : (y == who) = true := by simp [he]
        have HE := hid he
        clear he
        go_wp2_with fail
        go_ret
        exact .inl ⟨above_yes (i := lock + j) (by omega) (by omega) (by rw [HY.out]; exact HE.out), rfl, rfl⟩
      · have hb1 : (y == who) = false := by simp [he]
        have HE := hid he
        clear he
        go_wp2_with fail
        go_round
        case rel => exact ⟨j + 1, by omega, by go_num, hid (fun k hk => by
            rcases Nat.lt_or_ge k j with h | h
            · exact HF.out k h
            · have : k = j := by omega
              subst this; rw [HY.out]; exact HE.out)⟩
        case measure => simp [intOf]; omega
    · obtain rfl : j = 5 - lock := by omega
      have ha := hid (above_no (bs := bs) (who := who) (lock := lock) (fun i hi hl => by
        have := HF.out (i - lock) (by omega)
        rw [show lock + (i - lock) = i by omega] at this
        exact this))
      have hc := H.out.cell lock h1
      have hf := H.out.free lock
      obtain ⟨y, hy⟩ : ∃ y, bs.getD lock 0 = y := ⟨_, rfl⟩
      rw [hy] at hc
      have HY := hid hy
      clear hy
      by_cases he : y = -1
      · have hb1 : (y != -1) = false := by simp [he]
        have HE := hid he
        clear he
        go_wp2_with fail
        go_ret
        exact .inr (.inr ⟨ha.out, by rw [HY.out]; exact HE.out, rfl, rfl⟩)
      · have hb1 : (y != -1) = true := by simp [he]
        have HE := hid he
        clear he
        go_wp2_with fail
        go_ret
        exact .inr (.inl ⟨ha.out, by rw [HY.out]; exact HE.out, rfl, rfl⟩)
theorem try_any (p : Nat) (bs : List Int) (who lock : Int) (w : World) (h : Five 48 w p bs) :
    Calls Try.prog 7 #[.pointer (some ⟨p, 0, none⟩), .int .i64 who, .int .i64 lock] w fun e w' => e = .returned (.int .i64 (tryE bs who lock)) ∧ Five 48 w' p (tryB bs who lock) ∧ Only p w w' ∧ w'.heap.size = w.heap.size := by
  by_cases hr : right who lock
  · obtain ⟨n, rfl⟩ := Int.eq_ofNat_of_zero_le hr.2.1
    refine (try_right p bs who n w h hr.1 (by have := hr.2.2; omega)).mono ?_
    rintro e w' (⟨ha, rfl, rfl⟩ | ⟨ha, hb, rfl, rfl⟩ | ⟨ha, hb, rfl, rfl⟩)
    · have e : tryE bs who n = 5 := by unfold tryE; rw [if_neg (fun h => h hr), if_pos (by simpa using ha)]
      exact ⟨by rw [e], by unfold tryB; rw [e, if_neg (by decide)]; exact h, Only.refl _ _, rfl⟩
    · have e : tryE bs who n = 8 := by unfold tryE; rw [if_neg (fun h => h hr), if_neg (by simp [ha]), if_pos (by simpa using hb)]
      exact ⟨by rw [e], by unfold tryB; rw [e, if_neg (by decide)]; exact h, Only.refl _ _, rfl⟩
    · have e : tryE bs who n = 0 := by unfold tryE; rw [if_neg (fun h => h hr), if_neg (by simp [ha]), if_neg (fun h => h (by simpa using hb))]
      exact ⟨by rw [e], by unfold tryB; rw [e, if_pos rfl]; exact h.set n who, Only.set _ _ _ _, by simp [World.setCell]⟩
  · refine (try_wrong p who lock w hr).mono ?_
    rintro e w' ⟨rfl, rfl⟩
    have e : tryE bs who lock = 1 := by unfold tryE; rw [if_pos hr]
    exact ⟨by rw [e], by unfold tryB; rw [e, if_neg (by decide)]; exact h, Only.refl _ _, rfl⟩

def holderV (bs : List Int) (lock : Int) : Int := if 0 ≤ lock ∧ lock < 5 then bs.getD lock.toNat 0 else -1
theorem holder_any (p : Nat) (bs : List Int) (lock : Int) (w : World) (h : Five 48 w p bs) :
    Calls Try.prog 13 #[.pointer (some ⟨p, 0, none⟩), .int .i64 lock] w fun e w' => e = .returned (.int .i64 (holderV bs lock)) ∧ w = w' := by
  by_cases hr : 0 ≤ lock ∧ lock < 5
  · have e : holderV bs lock = bs.getD lock.toNat 0 := by unfold holderV; rw [if_pos hr]
    rw [e]
    have d2 := hid (decide_eq_true hr)
    obtain ⟨n, rfl⟩ := Int.eq_ofNat_of_zero_le hr.1
    have hn : n < 5 := by omega
    have hc := h.cell n hn
    rw [Int.toNat_natCast]
    generalize bs.getD n 0 = y at *
    clear hr h
    go_enter Try.func13, Try.ntmps13
    go_wp2_with (go_at_call 22; refine (there_any _ _).mono ?_; rintro e w' ⟨rfl, rfl⟩; rw [d2.out])
    go_ret
    exact ⟨rfl, rfl⟩
  · have e : holderV bs lock = -1 := by unfold holderV; rw [if_neg hr]
    rw [e]
    have d2 := hid (decide_eq_false hr)
    clear hr h
    go_enter Try.func13, Try.ntmps13
    go_wp2_with (go_at_call 22; refine (there_any _ _).mono ?_; rintro e w' ⟨rfl, rfl⟩; rw [d2.out])
    go_ret
    exact ⟨rfl, rfl⟩
def freeE (bs : List Int) (who lock : Int) : Int := if ¬ right who lock then 1 else if bs.getD lock.toNat 0 ≠ who then 3 else 0
def freeB (bs : List Int) (who lock : Int) : List Int := if freeE bs who lock = 0 then bs.set lock.toNat (-1) else bs
end Go.Proofs.Ytpemlpahpbpbeaa.Lk
