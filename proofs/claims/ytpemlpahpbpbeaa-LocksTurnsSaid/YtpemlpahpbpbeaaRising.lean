/- Locks: the locks of a list, rising, each once. Conditions: those that each contract names. -/
import Derived.Test.YtpemlpahpbpbeaaCount
import Derived.Deep.CutBlock
namespace Go.Proofs.Ytpemlpahpbpbeaa.Lk
open Go.RowKit
set_option linter.unusedVariables false
set_option linter.unusedSimpArgs false
/-- Rising numbers below k. -/
def Rise (L : List Int) (k : Nat) : Prop := (∀ i, i < L.length → ∃ m : Nat, m < k ∧ L.getD i 0 = m) ∧ ∀ i, i + 1 < L.length → L.getD i 0 < L.getD (i + 1) 0
theorem Rise.nil (k : Nat) : Rise [] k := ⟨fun i hi => by simp at hi, fun i hi => by simp at hi⟩
theorem Rise.keep {L : List Int} {k : Nat} (h : Rise L k) : Rise L (k + 1) := ⟨fun i hi => by obtain ⟨m, h1, h2⟩ := h.1 i hi; exact ⟨m, by omega, h2⟩, h.2⟩
theorem Rise.snoc {L : List Int} {k : Nat} (h : Rise L k) : Rise (L ++ [(k : Int)]) (k + 1) := by
  have ein : ∀ i, i < L.length → (L ++ [(k : Int)]).getD i 0 = L.getD i 0 := fun i hi => by simp [List.getElem?_append_left hi]
  have ela : (L ++ [(k : Int)]).getD L.length 0 = k := by simp
  refine ⟨fun i hi => ?_, fun i hi => ?_⟩
  · by_cases hlt : i < L.length
    · obtain ⟨m, h1, h2⟩ := h.1 i hlt
      exact ⟨m, by omega, by rw [ein i hlt]; exact h2⟩
    · obtain rfl : i = L.length := by simp at hi; omega
      exact ⟨k, by omega, ela⟩
  · by_cases hlt : i + 1 < L.length
    · rw [ein i (by omega), ein _ hlt]; exact h.2 i hlt
    · have e : i + 1 = L.length := by simp at hi; omega
      rw [e, ela, ein i (by omega)]
      obtain ⟨m, h1, h2⟩ := h.1 i (by omega)
      rw [h2]; omega
def RowOf (W : World) (k : Nat) (v : Value) (wr : World) : Prop :=
  ∃ (A : Option Addr) (n c : Nat) (L : List Int), v = .slice A n c ∧ L.length = n ∧ n ≤ k ∧ wr.ownsRow W.heap.size 3 1 (.slice A n c) n (nums L) ∧ Below W.heap.size W wr ∧ Rise L k
set_option maxHeartbeats 800000 in
theorem rising_any (A : Option Addr) (n c : Nat) (zs : List Int) (w : World) (hl : IsInts w A n zs) (hn : n ≤ 9223372036854775807) :
    Calls Try.prog 19 #[.slice A n c] w fun e w' => ∃ v, e = .returned v ∧ RowOf w 5 v w' := by
  have HL := hid hl
  clear hl
  go_enter Try.func19, Try.ntmps19
  go_wp2_with fail
  go_loopw [3, 4] (fun v kv wr => ∃ k : Nat, k ≤ 5 ∧ kv = .int .i64 k ∧ RowOf w k v wr) (fun _ kv _ => 5 - (intOf kv).toNat)
  case atStart => exact ⟨0, by omega, rfl, none, 0, 0, [], rfl, rfl, by omega, ⟨rfl, .inl ⟨rfl, rfl⟩⟩, Below.refl _ _, Rise.nil 0⟩
  case round =>
    obtain ⟨k, hk, rfl, A1, n1, c1, L, rfl, hln, hnk, ho, hb, hr⟩ := hrel
    have HO := hid ho
    have HB := hid hb
    have HR := hid hr
    have LN := hid hln
    have hsz := hb.size
    clear ho hb hr hln
    by_cases hlt : k < 5
    · go_wp2_with fail
      go_loop [3, 5] (fun v iv => v = .slice A1 n1 c1 ∧ ∃ i : Nat, i ≤ n ∧ iv = .int .i64 i) (fun _ iv => n - (intOf iv).toNat)
      case atStart => exact ⟨rfl, 0, by omega, rfl⟩
      case round =>
        obtain ⟨rfl, i, hi, rfl⟩ := hrel
        by_cases hin : i < n
        · by_cases hi20 : i < 20
          · obtain ⟨b, off, hAe, hbl, hc⟩ : ∃ b off, A = some ⟨b, off, none⟩ ∧ b < w.heap.size ∧ ∀ i, i < n → w.cell? ⟨b, off + i, none⟩ = some (.int .i64 (zs.getD i 0)) := by
              rcases HL.out with ⟨_, h0 | h⟩
              · omega
              · exact h
            subst hAe
            have ci := (HB.out.cell (p := ⟨b, off + i, none⟩) hbl).trans (hc i hin)
            obtain ⟨z, hz⟩ : ∃ z, zs.getD i 0 = z := ⟨_, rfl⟩
            rw [hz] at ci
            obtain ⟨z', ez, z0, z1⟩ := modu z 5 (by omega) (by omega)
            by_cases hz' : z' = k
            · have hb1 : (wrap64 ((IntKind.u64.wrap z).tmod 5) == (k : Int)) = true := by rw [ez, hz']; simp
              clear hc hz ez hz'
              go_wp2_with (at_builtin; refine app1 rfl _ _ rfl w.heap.size _ n1 L rfl (HO.out.alloc _) wr.heap.size k rfl (by go_simp) (by omega) (by simp; omega) w (HB.out.alloc hsz _) ?_; intro g2 c2 w2 hsz2 ho2 hb2)
              go_roundw
              case rel => exact ⟨k + 1, by omega, by go_num, _, n1 + 1, c2, L ++ [(k : Int)], rfl, by simp [LN.out], by omega, ho2, hb2, HR.out.snoc⟩
              case measure => simp [intOf]; omega
            · have hb1 : (wrap64 ((IntKind.u64.wrap z).tmod 5) == (k : Int)) = false := by rw [ez]; simp [hz']
              clear hc hz ez hz'
              go_wp2_with fail
              go_round
              case rel => exact ⟨rfl, i + 1, by omega, by go_num⟩
              case measure => simp [intOf]; omega
          · go_wp2_with fail
            go_roundw
            case rel => exact ⟨k + 1, by omega, by go_num, A1, n1, c1, L, rfl, LN.out, by omega, HO.out, HB.out, HR.out.keep⟩
            case measure => simp [intOf]; omega
        · go_wp2_with fail
          go_roundw
          case rel => exact ⟨k + 1, by omega, by go_num, A1, n1, c1, L, rfl, LN.out, by omega, HO.out, HB.out, HR.out.keep⟩
          case measure => simp [intOf]; omega
    · obtain rfl : k = 5 := by omega
      go_wp2_with fail
      go_ret
      exact ⟨_, rfl, A1, n1, c1, L, rfl, LN.out, hnk, HO.out, HB.out, HR.out⟩
end Go.Proofs.Ytpemlpahpbpbeaa.Lk
