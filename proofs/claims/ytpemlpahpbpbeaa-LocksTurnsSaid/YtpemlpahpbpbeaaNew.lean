/- Locks: five numbers in a block; New; who is a person, which lock there is. Conditions: those that each contract names. -/
import Derived.Test.YtpemlpahpbpbeaaBase
namespace Go.Proofs.Ytpemlpahpbpbeaa.Lk
open Go.RowKit
set_option linter.unusedVariables false
set_option linter.unusedSimpArgs false

/-- Five whole numbers in a block of their own. -/
structure Five (T : TypeId) (w : World) (p : Nat) (bs : List Int) : Prop where
  five : bs.length = 5
  block : w.heap[p]? = some (.cells (nums bs).toArray T (0, 0))
theorem Five.lt {T : TypeId} {w : World} {p : Nat} {bs : List Int} (h : Five T w p bs) : p < w.heap.size := (Array.getElem?_eq_some_iff.1 h.block).1
theorem Five.cell {T : TypeId} {w : World} {p : Nat} {bs : List Int} (h : Five T w p bs) (i : Nat) (hi : i < 5) : w.cell? ⟨p, i, none⟩ = some (.int .i64 (bs.getD i 0)) := by
  have h5 := h.five
  simp only [World.cell?, h.block]
  have : i < bs.length := by omega
  simp [nums, this]
theorem Five.free {T : TypeId} {w : World} {p : Nat} {bs : List Int} (h : Five T w p bs) (i : Nat) : w.frozen? ⟨p, i, none⟩ = false := by
  simp only [World.frozen?, h.block]
  simp
theorem Five.set {T : TypeId} {w : World} {p : Nat} {bs : List Int} (h : Five T w p bs) (i : Nat) (v : Int) : Five T (w.setCell ⟨p, i, none⟩ (.int .i64 v)) p (bs.set i v) := by
  refine ⟨by simp [h.five], ?_⟩
  have hp := h.lt
  simp only [World.setCell, Array.getElem?_modify, h.block]
  simp [nums, List.map_set]
theorem Five.other {T : TypeId} {w w' : World} {p : Nat} {bs : List Int} (h : Five T w p bs) (hb : w'.heap[p]? = w.heap[p]?) : Five T w' p bs := ⟨h.five, by rw [hb]; exact h.block⟩
theorem Five.alloc {T : TypeId} {w : World} {p : Nat} {bs : List Int} (h : Five T w p bs) (o : Obj) : Five T (w.alloc o) p bs := h.other (Below.heap_alloc _ _ _ h.lt)
theorem Five.drewN {T : TypeId} {w : World} {p : Nat} {bs : List Int} (h : Five T w p bs) (m : Nat) : Five T (w.drewN m) p bs := ⟨h.five, h.block⟩

/-- Of what was there only block p has turned. -/
structure Only (p : Nat) (w w' : World) : Prop where
  os : w'.os = w.os
  tape : w'.tape = w.tape
  output : w'.output = w.output
  size : w.heap.size ≤ w'.heap.size
  block : ∀ k, k < w.heap.size → k ≠ p → w'.heap[k]? = w.heap[k]?
theorem Only.refl (p : Nat) (w : World) : Only p w w := ⟨rfl, rfl, rfl, Nat.le_refl _, fun _ _ _ => rfl⟩
theorem Only.trans {p : Nat} {a b c : World} (h : Only p a b) (k : Only p b c) : Only p a c :=
  ⟨k.os.trans h.os, k.tape.trans h.tape, k.output.trans h.output, Nat.le_trans h.size k.size, fun i hi hp => (k.block i (Nat.lt_of_lt_of_le hi h.size) hp).trans (h.block i hi hp)⟩
theorem Only.of_below {p : Nat} {w w' : World} (h : Below w.heap.size w w') : Only p w w' := ⟨h.os, h.tape, h.output, h.size, fun k hk _ => h.block k hk⟩
theorem Only.set (p i : Nat) (w : World) (v : Value) : Only p w (w.setCell ⟨p, i, none⟩ v) := ⟨rfl, rfl, rfl, by simp [World.setCell], fun k hk hp => Below.heap_setCell _ _ _ _ hp⟩
theorem Only.below {p B : Nat} {W w w' : World} (hb : Below B W w) (h : Only p w w') (hp : B ≤ p) (hB : B ≤ w.heap.size) : Below B W w' :=
  hb.trans ⟨h.os, h.tape, h.output, h.size, fun k hk => h.block k (by omega) (by omega)⟩
theorem Only.five {p q : Nat} {T : TypeId} {w w' : World} {bs : List Int} (h : Only p w w') (hf : Five T w q bs) (hq : q ≠ p) : Five T w' q bs := hf.other (h.block q hf.lt hq)

theorem person_any (x : Int) (w : World) :
    Calls Try.prog 21 #[.int .i64 x] w fun e w' => e = .returned (.bool (decide (0 ≤ x ∧ x < 16))) ∧ w = w' := by
  by_cases h : 0 ≤ x
  · go_enter Try.func21, Try.ntmps21
    go_wp2
    go_ret
    exact ⟨by simp [h], rfl⟩
  · go_enter Try.func21, Try.ntmps21
    go_wp2
    go_ret
    exact ⟨by simp; omega, rfl⟩
theorem there_any (x : Int) (w : World) :
    Calls Try.prog 22 #[.int .i64 x] w fun e w' => e = .returned (.bool (decide (0 ≤ x ∧ x < 5))) ∧ w = w' := by
  by_cases h : 0 ≤ x
  · go_enter Try.func22, Try.ntmps22
    go_wp2
    go_ret
    exact ⟨by simp [h], rfl⟩
  · go_enter Try.func22, Try.ntmps22
    go_wp2
    go_ret
    exact ⟨by simp; omega, rfl⟩
def noneHeld : List Int := [-1, -1, -1, -1, -1]
set_option maxHeartbeats 800000 in
theorem new_any (w : World) :
    Calls Try.prog 6 #[] w fun e w' => e = .returned (.pointer (some ⟨w.heap.size, 0, none⟩)) ∧ Five 48 w' w.heap.size noneHeld ∧ Below w.heap.size w w' := by
  go_enter Try.func6, Try.ntmps6
  go_wp2_with fail
  go_loopw [5] (fun i wr => ∃ (k : Nat) (bs : List Int), k ≤ 5 ∧ i = .int .i64 k ∧ Hid (∀ j, j < k → bs.getD j 0 = -1) ∧ Five 48 wr w.heap.size bs ∧ Below w.heap.size w wr) (fun i _ => 5 - (intOf i).toNat)
  case atStart => exact ⟨0, [0, 0, 0, 0, 0], by omega, rfl, hid (fun j hj => absurd hj (by omega)), ⟨rfl, heap_alloc_at _ _⟩, (Below.refl _ _).alloc (Nat.le_refl _) _⟩
  case round =>
    obtain ⟨k, bs, hk, rfl, HF, hf, hb⟩ := hrel
    by_cases hlt : k < 5
    · have hc := hf.cell k hlt
      have hfr := hf.free k
      have F := hid hf
      have B := hid hb
      clear hf hb
      go_wp2_with fail
      go_roundw
      case rel =>
        refine ⟨k + 1, bs.set k (-1), by omega, by go_num, hid (fun j hj => ?_), F.out.set _ _, B.out.setCell (Nat.le_refl _) _⟩
        have h5 := F.out.five
        by_cases e : j = k
        · subst e; simp [show j < bs.length by omega]
        · have := HF.out j (by omega)
          rw [← this]
          simp only [List.getD_eq_getElem?_getD]
          rw [List.getElem?_set_ne (by omega)]
      case measure => simp [intOf]; omega
    · obtain rfl : k = 5 := by omega
      have F := hid hf
      have B := hid hb
      clear hf hb
      go_wp2_with fail
      go_ret
      refine ⟨rfl, ?_, B.out⟩
      have : bs = noneHeld := by
        have h5 := F.out.five
        obtain ⟨b0, b1, b2, b3, b4, rfl⟩ : ∃ b0 b1 b2 b3 b4, bs = [b0, b1, b2, b3, b4] := by
          match bs, h5 with
          | [b0, b1, b2, b3, b4], _ => exact ⟨_, _, _, _, _, rfl⟩
        have h0 := HF.out 0 (by omega); have h1 := HF.out 1 (by omega); have h2 := HF.out 2 (by omega); have h3 := HF.out 3 (by omega); have h4 := HF.out 4 (by omega)
        simp at h0 h1 h2 h3 h4
        subst h0 h1 h2 h3 h4
        rfl
      rw [← this]; exact F.out
end Go.Proofs.Ytpemlpahpbpbeaa.Lk
