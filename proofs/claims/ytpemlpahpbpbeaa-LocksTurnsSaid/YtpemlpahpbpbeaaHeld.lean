/- Locks: Held. Conditions: those that each contract names. -/
import Derived.Test.YtpemlpahpbpbeaaNew
namespace Go.Proofs.Ytpemlpahpbpbeaa.Lk
open Go.RowKit
set_option linter.unusedVariables false
set_option linter.unusedSimpArgs false

def heldTo (bs : List Int) (who : Int) (k : Nat) : List Int := ((List.range k).filter (fun i : Nat => bs.getD i 0 == who)).map (fun i : Nat => (i : Int))
def heldL (bs : List Int) (who : Int) : List Int := if 0 ≤ who ∧ who < 16 then heldTo bs who 5 else []
theorem heldTo_yes (bs : List Int) (who : Int) (k : Nat) (h : bs.getD k 0 = who) : heldTo bs who (k + 1) = heldTo bs who k ++ [(k : Int)] := by
  have h' : bs[k]?.getD 0 = who := by simpa using h
  unfold heldTo
  rw [List.range_succ, List.filter_append, List.map_append]
  simp [List.filter_cons, h']
theorem heldTo_no (bs : List Int) (who : Int) (k : Nat) (h : bs.getD k 0 ≠ who) : heldTo bs who (k + 1) = heldTo bs who k := by
  have h' : ¬ bs[k]?.getD 0 = who := by simpa using h
  unfold heldTo
  rw [List.range_succ, List.filter_append, List.map_append]
  simp [h']
theorem heldTo_le (bs : List Int) (who : Int) (k : Nat) : (heldTo bs who k).length ≤ k := by
  unfold heldTo
  have := List.length_filter_le (fun i : Nat => bs.getD i 0 == who) (List.range k)
  simpa using this
theorem own_ints {w : World} {base n c : Nat} {A : Option Addr} {zs : List Int} (hn : zs.length = n) (h : w.ownsRow base 3 1 (.slice A n c) n (nums zs)) : IsInts w A n zs := by
  obtain ⟨h1, h2 | ⟨g, cap, cur, hv, hb, hg⟩⟩ := h
  · exact ⟨hn, .inl h2.2⟩
  · cases hv
    exact own_reads hn ⟨h1, .inr ⟨g, c, cur, rfl, hb, hg⟩⟩
theorem five_of (bs : List Int) (h : bs.length = 5) : ∃ b0 b1 b2 b3 b4, bs = [b0, b1, b2, b3, b4] := by
  match bs, h with
  | [b0, b1, b2, b3, b4], _ => exact ⟨_, _, _, _, _, rfl⟩

theorem idx0 (b0 b1 b2 b3 b4 : Int) (w : World) : (Instr.index 26 (.agg #[.int .i64 b0, .int .i64 b1, .int .i64 b2, .int .i64 b3, .int .i64 b4]) (.int .i64 0)).run Try.prog w = .ok (.int .i64 b0) w := by kernel_rfl
theorem idx1 (b0 b1 b2 b3 b4 : Int) (w : World) : (Instr.index 26 (.agg #[.int .i64 b0, .int .i64 b1, .int .i64 b2, .int .i64 b3, .int .i64 b4]) (.int .i64 1)).run Try.prog w = .ok (.int .i64 b1) w := by kernel_rfl
theorem idx2 (b0 b1 b2 b3 b4 : Int) (w : World) : (Instr.index 26 (.agg #[.int .i64 b0, .int .i64 b1, .int .i64 b2, .int .i64 b3, .int .i64 b4]) (.int .i64 2)).run Try.prog w = .ok (.int .i64 b2) w := by kernel_rfl
theorem idx3 (b0 b1 b2 b3 b4 : Int) (w : World) : (Instr.index 26 (.agg #[.int .i64 b0, .int .i64 b1, .int .i64 b2, .int .i64 b3, .int .i64 b4]) (.int .i64 3)).run Try.prog w = .ok (.int .i64 b3) w := by kernel_rfl
theorem idx4 (b0 b1 b2 b3 b4 : Int) (w : World) : (Instr.index 26 (.agg #[.int .i64 b0, .int .i64 b1, .int .i64 b2, .int .i64 b3, .int .i64 b4]) (.int .i64 4)).run Try.prog w = .ok (.int .i64 b4) w := by kernel_rfl
theorem idx (b0 b1 b2 b3 b4 : Int) (k : Nat) (hk : k < 5) (w : World) : (Instr.index 26 (.agg #[.int .i64 b0, .int .i64 b1, .int .i64 b2, .int .i64 b3, .int .i64 b4]) (.int .i64 (k : Int))).run Try.prog w = .ok (.int .i64 ([b0, b1, b2, b3, b4].getD k 0)) w := by
  match k, hk with
  | 0, _ => exact idx0 b0 b1 b2 b3 b4 w
  | 1, _ => exact idx1 b0 b1 b2 b3 b4 w
  | 2, _ => exact idx2 b0 b1 b2 b3 b4 w
  | 3, _ => exact idx3 b0 b1 b2 b3 b4 w
  | 4, _ => exact idx4 b0 b1 b2 b3 b4 w
set_option maxHeartbeats 800000 in
theorem held_person (p : Nat) (bs : List Int) (who : Int) (w : World) (h : Five 48 w p bs) (h0 : 0 ≤ who) (h1 : who < 16) :
    Calls Try.prog 16 #[.pointer (some ⟨p, 0, none⟩), .int .i64 who] w fun e w' => ∃ A n c, e = .returned (.slice A n c) ∧ (heldTo bs who 5).length = n ∧ w'.ownsRow w.heap.size 3 1 (.slice A n c) n (nums (heldTo bs who 5)) ∧ Below w.heap.size w w' := by
  have H := hid h
  have hp := h.lt
  obtain ⟨b0, b1, b2, b3, b4, rfl⟩ := five_of bs h.five
  have c0 : w.cell? ⟨p, 0, none⟩ = some (.int .i64 b0) := h.cell 0 (by omega)
  have c1 : w.cell? ⟨p, 1, none⟩ = some (.int .i64 b1) := h.cell 1 (by omega)
  have c2 : w.cell? ⟨p, 2, none⟩ = some (.int .i64 b2) := h.cell 2 (by omega)
  have c3 : w.cell? ⟨p, 3, none⟩ = some (.int .i64 b3) := h.cell 3 (by omega)
  have c4 : w.cell? ⟨p, 4, none⟩ = some (.int .i64 b4) := h.cell 4 (by omega)
  clear h
  go_enter Try.func16, Try.ntmps16
  go_wp2_with fail
  clear c0 c1 c2 c3 c4
  go_loopw [5, 12] (fun v i wr => ∃ (k n c : Nat) (A : Option Addr), k ≤ 5 ∧ i = .int .i64 k ∧ v = .slice A n c ∧ (heldTo [b0, b1, b2, b3, b4] who k).length = n ∧ wr.ownsRow w.heap.size 3 1 (.slice A n c) n (nums (heldTo [b0, b1, b2, b3, b4] who k)) ∧ Below w.heap.size w wr) (fun _ i _ => 5 - (intOf i).toNat)
  case atStart => exact ⟨0, 0, 0, none, by omega, rfl, rfl, rfl, ⟨rfl, .inl ⟨rfl, rfl⟩⟩, Below.refl _ _⟩
  case round =>
    obtain ⟨k, n, c, A, hk, rfl, rfl, hn, ho, hb⟩ := hrel
    have hn5 : n ≤ 5 := by have := heldTo_le [b0, b1, b2, b3, b4] who k; omega
    have HN := hid hn
    have HO := hid ho
    have HB := hid hb
    have hsz := hb.size
    clear hn ho hb
    by_cases hlt : k < 5
    · have ik : ∀ w, (Instr.index 26 (.agg #[.int .i64 b0, .int .i64 b1, .int .i64 b2, .int .i64 b3, .int .i64 b4]) (.int .i64 (k : Int))).run Try.prog w = .ok (.int .i64 ([b0, b1, b2, b3, b4].getD k 0)) w := fun w => idx b0 b1 b2 b3 b4 k hlt w
      obtain ⟨y, hy⟩ : ∃ y, [b0, b1, b2, b3, b4].getD k 0 = y := ⟨_, rfl⟩
      rw [hy] at ik
      have HY := hid hy
      clear hy
      by_cases he : y = who
      · have hb1 : (y == who) = true := by simp [he]
        have HE := hid he
        clear he
        go_wp2_with (first
          | (go_at_call 21; refine (person_any _ _).mono ?_; rintro e w' ⟨rfl, rfl⟩)
          | (at_builtin; refine app1 rfl _ _ rfl w.heap.size _ n (heldTo [b0, b1, b2, b3, b4] who k) rfl (HO.out.alloc _) wr.heap.size k rfl (by go_simp) (by omega) (by simp; omega) w (HB.out.alloc hsz _) ?_; intro g2 c2 w2 hsz2 ho2 hb2))
        go_roundw
        case rel => exact ⟨k + 1, n + 1, c2, _, by omega, by go_num, rfl, by rw [heldTo_yes _ _ _ (by rw [HY.out]; exact HE.out)]; simp [HN.out], by rw [heldTo_yes _ _ _ (by rw [HY.out]; exact HE.out)]; exact ho2, hb2⟩
        case measure => simp [intOf]; omega
      · have hb1 : (y == who) = false := by simp [he]
        have HE := hid he
        clear he
        go_wp2_with (go_at_call 21; refine (person_any _ _).mono ?_; rintro e w' ⟨rfl, rfl⟩)
        go_roundw
        case rel => exact ⟨k + 1, n, c, _, by omega, by go_num, rfl, by rw [heldTo_no _ _ _ (by rw [HY.out]; exact HE.out)]; exact HN.out, by rw [heldTo_no _ _ _ (by rw [HY.out]; exact HE.out)]; exact HO.out, HB.out⟩
        case measure => simp [intOf]; omega
    · obtain rfl : k = 5 := by omega
      go_wp2_with fail
      go_ret
      exact ⟨_, _, _, rfl, HN.out, HO.out, HB.out⟩
theorem held_nobody (p : Nat) (bs : List Int) (who : Int) (w : World) (h : Five 48 w p bs) (h0 : ¬ (0 ≤ who ∧ who < 16)) :
    Calls Try.prog 16 #[.pointer (some ⟨p, 0, none⟩), .int .i64 who] w fun e w' => e = .returned (.slice none 0 0) ∧ Below w.heap.size w w' := by
  have H := hid h
  have hp := h.lt
  obtain ⟨b0, b1, b2, b3, b4, rfl⟩ := five_of bs h.five
  have c0 : w.cell? ⟨p, 0, none⟩ = some (.int .i64 b0) := h.cell 0 (by omega)
  have c1 : w.cell? ⟨p, 1, none⟩ = some (.int .i64 b1) := h.cell 1 (by omega)
  have c2 : w.cell? ⟨p, 2, none⟩ = some (.int .i64 b2) := h.cell 2 (by omega)
  have c3 : w.cell? ⟨p, 3, none⟩ = some (.int .i64 b3) := h.cell 3 (by omega)
  have c4 : w.cell? ⟨p, 4, none⟩ = some (.int .i64 b4) := h.cell 4 (by omega)
  clear h
  have hd := hid (decide_eq_false h0)
  clear h0
  go_enter Try.func16, Try.ntmps16
  go_wp2_with fail
  clear c0 c1 c2 c3 c4
  go_loop [5, 12] (fun v i => ∃ (k : Nat), k ≤ 5 ∧ i = .int .i64 k ∧ v = .slice none 0 0) (fun _ i => 5 - (intOf i).toNat)
  case atStart => exact ⟨0, by omega, rfl, rfl⟩
  case round =>
    obtain ⟨k, hk, rfl, rfl⟩ := hrel
    by_cases hlt : k < 5
    · have ik : ∀ w, (Instr.index 26 (.agg #[.int .i64 b0, .int .i64 b1, .int .i64 b2, .int .i64 b3, .int .i64 b4]) (.int .i64 (k : Int))).run Try.prog w = .ok (.int .i64 ([b0, b1, b2, b3, b4].getD k 0)) w := fun w => idx b0 b1 b2 b3 b4 k hlt w
      obtain ⟨y, hy⟩ : ∃ y, [b0, b1, b2, b3, b4].getD k 0 = y := ⟨_, rfl⟩
      rw [hy] at ik
      clear hy
      go_wp2_with (go_at_call 21; refine (person_any _ _).mono ?_; rintro e w' ⟨rfl, rfl⟩; rw [hd.out])
      go_round
      case rel => exact ⟨k + 1, by omega, by go_num, rfl⟩
      case measure => simp [intOf]; omega
    · obtain rfl : k = 5 := by omega
      go_wp2_with fail
      go_ret
      exact ⟨rfl, Below.refl _ _⟩
theorem heldL_le (bs : List Int) (who : Int) : (heldL bs who).length ≤ 5 := by
  unfold heldL; split
  · exact heldTo_le _ _ _
  · simp
theorem held_any (p : Nat) (bs : List Int) (who : Int) (w : World) (h : Five 48 w p bs) :
    Calls Try.prog 16 #[.pointer (some ⟨p, 0, none⟩), .int .i64 who] w fun e w' => ∃ A n c, e = .returned (.slice A n c) ∧ n ≤ 5 ∧ IsInts w' A n (heldL bs who) ∧ Below w.heap.size w w' := by
  by_cases hw : 0 ≤ who ∧ who < 16
  · refine (held_person p bs who w h hw.1 hw.2).mono ?_
    rintro e w' ⟨A, n, c, rfl, hn, ho, hb⟩
    have e : heldL bs who = heldTo bs who 5 := by unfold heldL; rw [if_pos hw]
    have := heldTo_le bs who 5
    exact ⟨A, n, c, rfl, by omega, by rw [e]; exact own_ints hn ho, hb⟩
  · refine (held_nobody p bs who w h hw).mono ?_
    rintro e w' ⟨rfl, hb⟩
    have e : heldL bs who = [] := by unfold heldL; rw [if_neg hw]
    exact ⟨none, 0, 0, rfl, by omega, by rw [e]; exact IsInts.nil _, hb⟩
end Go.Proofs.Ytpemlpahpbpbeaa.Lk
