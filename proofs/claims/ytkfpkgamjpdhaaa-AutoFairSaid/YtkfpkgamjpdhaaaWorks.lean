/- The statements' `works` returns true. No condition. -/
import Derived.Test.YtkfpkgamjpdhaaaSaw
namespace Go.Proofs.Ytkfpkgamjpdhaaa.Au
open Go.RowKit
set_option linter.unusedVariables false
set_option linter.unusedSimpArgs false
def two : List Vw := [(1, 1, 0), (0, 2, 0)]
theorem views_two (w : World) (b : Nat) (hb : w.heap.size = b) : IsViews (w.alloc (.cells #[.int .i64 1, .int .i64 1, .int .i64 0, .int .i64 0, .int .i64 2, .int .i64 0] 48)) (some ⟨b, 0, none⟩) 2 two := by
  subst hb
  refine ⟨rfl, .inr ⟨w.heap.size, 0, rfl, by simp, fun i hi => ?_⟩⟩
  match i, hi with
  | 0, _ => refine ⟨?_, ?_, ?_⟩ <;> (simp only [World.cell?, heap_alloc_at]; rfl)
  | 1, _ => refine ⟨?_, ?_, ?_⟩ <;> (simp only [World.cell?, heap_alloc_at]; rfl)
theorem last3_rep {α : Type} (x : α) (k : Nat) (hk : k < 3) : last3 (List.replicate k x ++ [x]) = List.replicate (k + 1) x := by
  match k, hk with
  | 0, _ => rfl
  | 1, _ => rfl
  | 2, _ => rfl
theorem dec_two : decV (List.replicate 3 two) 2 = (1, 0, 3) := by decide +kernel
theorem decide_to (p cl : Nat) (vws : List (List Vw)) (lo : Nat) (w : World) (x y : Int) (hs : Saw w p cl vws lo) (hlo : lo ≤ w.heap.size) (hcl : cl ≤ 8) (hn : vws.length = 3) (hx : (decV vws cl).1 = x) (hy : (decV vws cl).2.1 = y) (h : 0 ≤ x ∧ 0 ≤ y) :
    Calls Try.prog 13 #[.pointer (some ⟨p, 0, none⟩)] w fun e w' => e = .returned (.tuple #[.int .i64 x, .int .i64 y, .bool true]) ∧ (∀ lo', Saw w' p cl [] lo') ∧ Kept lo p w w' := by
  have := decide_yes p cl vws lo w hs hlo hcl hn (by rw [hx, hy]; exact h)
  rw [hx, hy] at this
  exact this
set_option maxRecDepth 100000 in
set_option maxHeartbeats 1600000 in
theorem works_any (w : World) :
    Calls Try.prog 15 #[] w fun e w' => e = .returned (.bool true) ∧ Below w.heap.size w w' := by
  go_enter Try.func15, Try.ntmps15
  go_wp2_with fail
  refine (new_saw 2 _ (by omega) (by omega)).mono ?_
  rintro e w1 ⟨rfl, hs, hb⟩
  have S1 := hid (hs w.heap.size)
  have O1 := hid hb
  have hs1 := hb.size
  clear hs hb
  go_wp2_with fail
  refine (decide_less _ 2 [] w.heap.size _ ?_ (by decide)).mono ?_
  · exact S1.out
  rintro e w' ⟨rfl, rfl⟩
  go_wp2_with fail
  go_loopw [6] (fun i wr => ∃ k : Nat, k ≤ 3 ∧ i = .int .i64 k ∧ Saw wr w.heap.size 2 (List.replicate k two) w.heap.size ∧ Below w.heap.size w wr) (fun i _ => 3 - (intOf i).toNat)
  case atStart =>
    refine ⟨0, by omega, rfl, S1.out, O1.out⟩
  case round =>
    obtain ⟨k, hk, rfl, hs, hb⟩ := hrel
    have S2 := hid hs
    have O2 := hid hb
    have hs2 := hb.size
    clear hs hb
    by_cases hlt : k < 3
    · go_wp2_with fail
      refine (see_saw _ 2 (List.replicate k two) w.heap.size _ _ two _ ?_ ?_ ?_ (by omega) (by decide)).mono ?_
      · exact S2.out.below ((Below.refl _ _).alloc (Nat.le_refl _) _)
      · simp; omega
      · exact views_two wr _ rfl
      rintro e w2 ⟨rfl, hs, hb⟩
      rw [last3_rep two k hlt] at hs
      have S3 := hid hs
      have O3 := hid hb
      clear hs hb
      go_wp2_with fail
      go_roundw
      case rel =>
        exact ⟨k + 1, by omega, by go_num, S3.out, Kept.below (O2.out.alloc hs2 _) O3.out (Nat.le_refl _) (Nat.le_refl _)⟩
      case measure => simp [intOf]; omega
    · obtain rfl : k = 3 := by omega
      clear hlt hk
      go_wp2_with fail
      refine (decide_to _ 2 (List.replicate 3 two) w.heap.size _ 1 0 ?_ ?_ (by omega) rfl (by rw [dec_two]) (by rw [dec_two]) (by omega)).mono ?_
      · exact S2.out
      · omega
      rintro e w3 ⟨rfl, hs, hb⟩
      have S3 := hid (hs w.heap.size)
      have O3 := hid (Kept.below O2.out hb (Nat.le_refl _) (Nat.le_refl _))
      clear hs hb
      go_wp2_with fail
      refine (decide_less _ 2 [] w.heap.size _ ?_ (by decide)).mono ?_
      · exact S3.out
      rintro e w' ⟨rfl, rfl⟩
      go_wp2_with fail
      refine (new_bad 9 _ (by omega)).mono ?_
      rintro e w' ⟨rfl, rfl⟩
      go_wp2_with fail
      refine (seen_saw _ 2 [] w.heap.size _ ?_).mono ?_
      · exact S3.out
      rintro e w' ⟨rfl, rfl⟩
      go_wp2_with fail
      refine (see_other _ 2 [] w.heap.size _ _ _ _ ?_ (by decide)).mono ?_
      · exact S3.out
      rintro e w' ⟨rfl, rfl⟩
      go_wp2_with fail
      go_ret
      exact ⟨rfl, O3.out⟩
end Go.Proofs.Ytkfpkgamjpdhaaa.Au
