/- The statements' `works` returns true. No condition. -/
import Derived.Test.YtpemlpahpbpbeaaDoes
namespace Go.Proofs.Ytpemlpahpbpbeaa.Lk
open Go.RowKit
set_option linter.unusedVariables false
set_option linter.unusedSimpArgs false
theorem try_to (p : Nat) (bs bs' : List Int) (who lock e' : Int) (w : World) (h : Five 48 w p bs) (he : tryE bs who lock = e') (hb : tryB bs who lock = bs') :
    Calls Try.prog 7 #[.pointer (some ⟨p, 0, none⟩), .int .i64 who, .int .i64 lock] w fun e w' => e = .returned (.int .i64 e') ∧ Five 48 w' p bs' ∧ Only p w w' := by
  have := try_any' p bs who lock w h
  rw [he, hb] at this
  exact this
theorem free_to (p : Nat) (bs bs' : List Int) (who lock e' : Int) (w : World) (h : Five 48 w p bs) (he : freeE bs who lock = e') (hb : freeB bs who lock = bs') :
    Calls Try.prog 9 #[.pointer (some ⟨p, 0, none⟩), .int .i64 who, .int .i64 lock] w fun e w' => e = .returned (.int .i64 e') ∧ Five 48 w' p bs' ∧ Only p w w' := by
  have := free_any p bs who lock w h
  rw [he, hb] at this
  exact this
theorem holder_to (p : Nat) (bs : List Int) (lock e' : Int) (w : World) (h : Five 48 w p bs) (he : holderV bs lock = e') :
    Calls Try.prog 13 #[.pointer (some ⟨p, 0, none⟩), .int .i64 lock] w fun e w' => e = .returned (.int .i64 e') ∧ w = w' := by
  have := holder_any p bs lock w h
  rw [he] at this
  exact this
set_option maxHeartbeats 1600000 in
theorem works_any (w : World) :
    Calls Try.prog 18 #[] w fun e w' => e = .returned (.bool true) ∧ Below w.heap.size w w' := by
  go_enter Try.func18, Try.ntmps18
  go_wp2_with fail
  refine (new_any _).mono ?_; rintro e w1 ⟨rfl, hf, hb⟩
  have F1 := hid hf; have O1 := hid hb; clear hf hb
  go_wp2_with fail
  refine (holder_to _ noneHeld 2 (-1) _ ?_ (by decide)).mono ?_
  · exact F1.out
  rintro e w' ⟨rfl, rfl⟩
  go_wp2_with fail
  refine (try_to _ noneHeld [-1, -1, 1, -1, -1] 1 2 0 _ ?_ (by decide) (by decide)).mono ?_
  · exact F1.out
  rintro e w2 ⟨rfl, hf, hb⟩
  have F2 := hid hf; have O2 := hid hb; clear hf hb
  go_wp2_with fail
  refine (try_to _ [-1, -1, 1, -1, -1] [-1, -1, 1, -1, -1] 3 2 8 _ ?_ (by decide) (by decide)).mono ?_
  · exact F2.out
  rintro e w3 ⟨rfl, hf, hb⟩
  have F3 := hid hf; have O3 := hid hb; clear hf hb
  go_wp2_with fail
  refine (try_to _ [-1, -1, 1, -1, -1] [-1, -1, 1, -1, -1] 1 0 5 _ ?_ (by decide) (by decide)).mono ?_
  · exact F3.out
  rintro e w4 ⟨rfl, hf, hb⟩
  have F4 := hid hf; have O4 := hid hb; clear hf hb
  go_wp2_with fail
  refine (try_to _ [-1, -1, 1, -1, -1] [-1, -1, 1, -1, -1] 1 2 5 _ ?_ (by decide) (by decide)).mono ?_
  · exact F4.out
  rintro e w5 ⟨rfl, hf, hb⟩
  have F5 := hid hf; have O5 := hid hb; clear hf hb
  go_wp2_with fail
  refine (holder_to _ [-1, -1, 1, -1, -1] 2 1 _ ?_ (by decide)).mono ?_
  · exact F5.out
  rintro e w' ⟨rfl, rfl⟩
  go_wp2_with fail
  refine (free_to _ [-1, -1, 1, -1, -1] [-1, -1, 1, -1, -1] 3 2 3 _ ?_ (by decide) (by decide)).mono ?_
  · exact F5.out
  rintro e w6 ⟨rfl, hf, hb⟩
  have F6 := hid hf; have O6 := hid hb; clear hf hb
  go_wp2_with fail
  refine (free_to _ [-1, -1, 1, -1, -1] [-1, -1, -1, -1, -1] 1 2 0 _ ?_ (by decide) (by decide)).mono ?_
  · exact F6.out
  rintro e w7 ⟨rfl, hf, hb⟩
  have F7 := hid hf; have O7 := hid hb; clear hf hb
  go_wp2_with fail
  refine (try_to _ [-1, -1, -1, -1, -1] [-1, -1, 3, -1, -1] 3 2 0 _ ?_ (by decide) (by decide)).mono ?_
  · exact F7.out
  rintro e w8 ⟨rfl, hf, hb⟩
  have F8 := hid hf; have O8 := hid hb; clear hf hb
  go_wp2_with fail
  refine (try_to _ [-1, -1, 3, -1, -1] [-1, -1, 3, -1, -1] 16 0 1 _ ?_ (by decide) (by decide)).mono ?_
  · exact F8.out
  rintro e w9 ⟨rfl, hf, hb⟩
  have F9 := hid hf; have O9 := hid hb; clear hf hb
  go_wp2_with fail
  refine (freeall_any _ [-1, -1, 3, -1, -1] 3 _ ?_).mono ?_
  · exact F9.out
  rintro e w10 ⟨rfl, hf, hb⟩
  have O10 := hid hb; clear hf hb
  rw [show (((heldL [-1, -1, 3, -1, -1] 3).length : Nat) : Int) = 1 from by decide]
  go_wp2_with fail
  go_ret
  have s1 := O1.out.size
  have OO := O2.out.trans (O3.out.trans (O4.out.trans (O5.out.trans (O6.out.trans (O7.out.trans (O8.out.trans (O9.out.trans O10.out)))))))
  exact ⟨rfl, Only.below O1.out OO (Nat.le_refl _) s1⟩
end Go.Proofs.Ytpemlpahpbpbeaa.Lk
