/- To, walked. Conditions: those that the contract names. -/
import Derived.Test.YtkfpkgamjpdhaaaRowV
import Derived.Deep.RegionHeldLaw
namespace Go.Proofs.Ytkfpkgamjpdhaaa.Au
open Go.RowKit
set_option linter.unusedVariables false
set_option linter.unusedSimpArgs false
set_option maxRecDepth 100000 in
set_option maxHeartbeats 4000000 in
theorem to_t (A : Option Addr) (n c : Nat) (vs : List Vw) (w : World) (hv : IsViews w A n vs) (hn : n ≤ 1000) :
    Calls Try.prog 10 #[.slice A n c] w fun e w' => ∃ v, e = .returned v ∧ OwnV w' w.heap.size v vs ∧ Below w.heap.size w w' := by
  have V := hid hv
  have hl := hv.1
  have HL := hid hl
  clear hv hl
  go_enter Try.func10, Try.ntmps10
  go_wp2_with fail
  go_loopw [3, 4] (fun ov iv wr => ∃ (k : Nat), k ≤ n ∧ iv = .int .i64 k ∧ OwnV wr w.heap.size ov (vs.take k) ∧ Below w.heap.size w wr) (fun _ iv _ => n - (intOf iv).toNat)
  case atStart =>
    exact ⟨0, by omega, rfl, OwnV.nil _ _, Below.refl _ _⟩
  case round =>
    obtain ⟨k, hk, rfl, ho, hb⟩ := hrel
    have O := hid ho
    have B := hid hb
    have hsz := hb.size
    clear ho hb
    by_cases hlt : k < n
    · obtain ⟨b, off, hA, hbl, hc⟩ : ∃ b off, A = some ⟨b, off, none⟩ ∧ b < w.heap.size ∧ ∀ i, i < n → w.cell? ⟨b, off + i * 3, none⟩ = some (.int .i64 (vs.getD i (0, 0, 0)).1) ∧ w.cell? ⟨b, off + i * 3 + 1, none⟩ = some (.int .i64 (vs.getD i (0, 0, 0)).2.1) ∧ w.cell? ⟨b, off + i * 3 + 2, none⟩ = some (.int .i64 (vs.getD i (0, 0, 0)).2.2) := by
        rcases V.out with ⟨_, h0 | h⟩
        · omega
        · exact h
      subst hA
      obtain ⟨cx, cy, cz⟩ := hc k hlt
      have dx := (B.out.cell (p := ⟨b, off + k * 3, none⟩) hbl).trans cx
      have dy := (B.out.cell (p := ⟨b, off + k * 3 + 1, none⟩) hbl).trans cy
      have dz := (B.out.cell (p := ⟨b, off + k * 3 + 2, none⟩) hbl).trans cz
      clear hc
      obtain ⟨⟨x, y, z⟩, hxyz⟩ : ∃ v, vs.getD k (0, 0, 0) = v := ⟨_, rfl⟩
      rw [hxyz] at dx dy dz cx cy cz
      simp only at dx dy dz cx cy cz
      have CX := hid cx
      have CY := hid cy
      have CZ := hid cz
      have htk : vs.take (k + 1) = vs.take k ++ [(x, y, z)] := by
        have hk' : k < vs.length := by rw [HL.out]; exact hlt
        rw [List.take_succ_eq_append_getElem hk', ← hxyz]
        simp [hk']
      have HT := hid htk
      have hlen : (vs.take k).length = k := by have := HL.out; simp; omega
      have HN := hid hlen
      have DX := hid dx
      have DY := hid dy
      have DZ := hid dz
      have hbr : b < wr.heap.size := by omega
      clear hxyz htk hlen cx cy cz
      have L := hid (show (vs.take k).length ≤ 1000 by rw [HN.out]; omega)
      go_upto_region 5 with fail
      go_region_held_law (fun w' => w'.cell? ⟨b, off + k * 3, none⟩ = some (.int .i64 x) ∧ w'.cell? ⟨b, off + k * 3 + 1, none⟩ = some (.int .i64 y) ∧ w'.cell? ⟨b, off + k * 3 + 2, none⟩ = some (.int .i64 z))
        (first | exact ⟨DX.out, DY.out, DZ.out⟩ | exact ⟨e1, e2, e3⟩ | (refine ⟨?_, ?_, ?_⟩ <;> go_simp))
        ((refine step_appV rfl (.tmp 11) (.tmp 28) rfl w.heap.size _ (vs.take k) rfl (OwnV.drew (O.out.kept ((Below.refl wr.heap.size wr).alloc (Nat.le_refl _) _))) wr.heap.size (x, y, z) rfl (heap_alloc_at _ _) L.out (by first | (simp; done) | (simp; omega)) ?_; intro g cap w2 ho2 hg2; have HB2 := hid (Below.grown ((B.out.alloc hsz (.cells #[.int .i64 x, .int .i64 y, .int .i64 z] 48)).drew) hg2 (by first | (simp; done) | (simp; omega)) (fun j hj => (O.out.lt j hj).1)); have HO2 := hid ho2; have e1 := (HB2.out.cell (p := ⟨b, off + k * 3, none⟩) hbl).trans CX.out; have e2 := (HB2.out.cell (p := ⟨b, off + k * 3 + 1, none⟩) hbl).trans CY.out; have e3 := (HB2.out.cell (p := ⟨b, off + k * 3 + 2, none⟩) hbl).trans CZ.out; clear ho2 hg2))
      go_wp2_with fail
      rw [HN.out] at HO2
      go_roundw
      case rel =>
        refine ⟨k + 1, by omega, by go_num, ?_, HB2.out⟩
        rw [HT.out, show min k vs.length = k by rw [HL.out]; omega]; exact HO2.out
      case measure => simp [intOf]; omega
    · obtain rfl : k = n := by omega
      have e : vs.take k = vs := by rw [List.take_of_length_le (by rw [HL.out]; exact Nat.le_refl _)]
      rw [e] at O
      go_wp2_with fail
      go_ret
      exact ⟨_, rfl, O.out, B.out⟩
end Go.Proofs.Ytkfpkgamjpdhaaa.Au
