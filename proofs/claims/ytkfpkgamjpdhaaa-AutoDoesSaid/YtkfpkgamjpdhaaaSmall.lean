/- New, Seen, Decide with too few windows, See with another length. Conditions: those that each contract names. -/
import Derived.Test.YtkfpkgamjpdhaaaMem
namespace Go.Proofs.Ytkfpkgamjpdhaaa.Au
open Go.RowKit
set_option linter.unusedVariables false
set_option linter.unusedSimpArgs false
theorem new_ok (cl : Nat) (w : World) (h0 : 1 ≤ cl) (h1 : cl ≤ 8) :
    Calls Try.prog 7 #[.int .i64 cl] w fun e w' => e = .returned (.tuple #[.pointer (some ⟨w.heap.size, 0, none⟩), .int .i64 0]) ∧ St w' w.heap.size cl [] none 0 ∧ Below w.heap.size w w' := by
  have a1 : decide ((cl : Int) < 1) = false := by simp; omega
  have a2 : decide (8 < (cl : Int)) = false := by simp; omega
  go_enter Try.func7, Try.ntmps7
  go_wp2_with fail
  go_ret2
  refine ⟨rfl, ⟨by go_simp, by go_simp, by go_simp, World.ownsRow_nil _ _ _ _, by simp, by simp⟩, (Below.refl _ _).alloc (Nat.le_refl _) _⟩
theorem new_bad (n : Int) (w : World) (h : n < 1 ∨ 8 < n) :
    Calls Try.prog 7 #[.int .i64 n] w fun e w' => e = .returned (.tuple #[.pointer none, .int .i64 1]) ∧ w = w' := by
  by_cases h1 : n < 1
  · have a1 : decide (n < 1) = true := by simp [h1]
    clear h
    go_enter Try.func7, Try.ntmps7
    go_wp2_with fail
    go_ret2
    exact ⟨rfl, rfl⟩
  · have a1 : decide (n < 1) = false := by simp; omega
    have a2 : decide (8 < n) = true := by simp; omega
    clear h h1
    go_enter Try.func7, Try.ntmps7
    go_wp2_with fail
    go_ret2
    exact ⟨rfl, rfl⟩
theorem seen_t (p cl : Nat) (ws : List (List Int)) (S : Option Addr) (sc : Nat) (w : World) (hst : St w p cl ws S sc) :
    Calls Try.prog 12 #[.pointer (some ⟨p, 0, none⟩)] w fun e w' => e = .returned (.int .i64 ws.length) ∧ w = w' := by
  have h1 := hst.c1
  clear hst
  go_enter Try.func12, Try.ntmps12
  go_wp2_with fail
  go_ret
  exact ⟨rfl, rfl⟩
theorem decide_few (p cl : Nat) (ws : List (List Int)) (S : Option Addr) (sc : Nat) (w : World) (hst : St w p cl ws S sc) (hn : ws.length < 3) :
    Calls Try.prog 13 #[.pointer (some ⟨p, 0, none⟩)] w fun e w' => e = .returned (.tuple #[.int .i64 0, .int .i64 0, .bool false]) ∧ w = w' := by
  have h1 := hst.c1
  clear hst
  obtain ⟨n, hn'⟩ : ∃ n, ws.length = n := ⟨_, rfl⟩
  rw [hn'] at h1 hn
  clear hn'
  go_enter Try.func13, Try.ntmps13
  go_wp2_with fail
  go_ret3
  exact ⟨rfl, rfl⟩
theorem see_len (p cl : Nat) (ws : List (List Int)) (S : Option Addr) (sc : Nat) (A : Option Addr) (n c : Nat) (w : World) (hst : St w p cl ws S sc) (hn : n ≠ cl) :
    Calls Try.prog 9 #[.pointer (some ⟨p, 0, none⟩), .slice A n c] w fun e w' => e = .returned (.int .i64 6) ∧ w = w' := by
  have h0 := hst.c0
  clear hst
  have a1 : (n == cl) = false := by simp [hn]
  go_enter Try.func9, Try.ntmps9
  go_wp2_with fail
  go_ret
  exact ⟨rfl, rfl⟩
end Go.Proofs.Ytkfpkgamjpdhaaa.Au
