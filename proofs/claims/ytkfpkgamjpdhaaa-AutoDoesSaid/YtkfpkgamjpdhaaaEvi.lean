/- evicted, walked. Conditions: those that the contract names. -/
import Derived.Test.YtkfpkgamjpdhaaaEv
namespace Go.Proofs.Ytkfpkgamjpdhaaa.Au
open Go.RowKit
set_option linter.unusedVariables false
set_option linter.unusedSimpArgs false
set_option maxRecDepth 100000 in
set_option maxHeartbeats 1000000 in
theorem evicted_t (p cl : Nat) (ws : List (List Int)) (S : Option Addr) (sc cc : Nat) (w : World) (hst : St w p cl ws S sc) (hcc : cc < 8)
    (hnum : ∀ i, i < ws.length → 0 ≤ evAt ws cc i ∧ evAt ws cc i ≤ 2147483647) :
    Calls Try.prog 18 #[.pointer (some ⟨p, 0, none⟩), .int .i64 cc] w fun e w' => e = .returned (.tuple #[.int .i64 (sumW ws cc ws.length), .int .i64 (leastW ws cc ws.length)]) ∧ Below w.heap.size w w' := by
  have h1 := hst.c1
  obtain ⟨n, hn⟩ : ∃ n, ws.length = n := ⟨_, rfl⟩
  have hn3 : n ≤ 3 := by have := hst.few; omega
  rw [hn] at h1 hnum ⊢
  have N := hid hn
  have T := hid hst
  have NU := hid hnum
  clear hn hst hnum
  have hcc' : (cc : Int) < 8 := by omega
  go_enter Try.func18, Try.ntmps18
  go_wp2_with fail
  go_loopw [4, 5, 7, 13] (fun sv lv bv iv wr => ∃ (k : Nat), k ≤ n ∧ iv = .int .i64 k ∧ sv = .int .i64 (sumW ws cc k) ∧ lv = .int .i64 (leastW ws cc k) ∧ Below w.heap.size w wr) (fun _ _ _ iv _ => n - (intOf iv).toNat)
  case atStart =>
    refine ⟨0, by omega, rfl, rfl, rfl, Below.refl _ _⟩
  case round =>
    obtain ⟨k, hk, rfl, rfl, rfl, hb⟩ := hrel
    have B := hid hb
    have hsz := hb.size
    clear hb
    by_cases hlt : k < n
    · obtain ⟨g, cap, hS, hpg, hgl⟩ := T.out.own.form (by have := N.out; omega)
      simp only [Value.slice.injEq] at hS
      obtain ⟨hS1, _, hS2⟩ := hS
      subst hS1 hS2
      have R0 := range_own (w := wr) N.out T.out.wid (N.out ▸ own_kept T.out.own B.out) k hlt
      obtain ⟨win, hwin⟩ : ∃ win, ws.getD k [] = win := ⟨_, rfl⟩
      rw [hwin] at R0
      have R := hid R0
      have hq : win.getD (cc * 3) 0 = evAt ws cc k := by unfold evAt; rw [hwin, Nat.mul_comm]
      clear R0 hwin
      obtain ⟨s, hs⟩ : ∃ s, sumW ws cc k = s := ⟨_, rfl⟩
      obtain ⟨l, hl⟩ : ∃ l, leastW ws cc k = l := ⟨_, rfl⟩
      obtain ⟨v, hv⟩ : ∃ v, evAt ws cc k = v := ⟨_, rfl⟩
      have hs1 := sumW_range NU.out k hk
      have hl1 := leastW_range NU.out k hk
      have hv1 := NU.out k hlt
      rw [hs] at hs1 ⊢
      rw [hl] at hl1 ⊢
      rw [hv] at hv1 hq
      have HQ := hid hq
      clear hq
      obtain ⟨hs2, hs3⟩ := hs1
      obtain ⟨hl2, hl3⟩ := hl1
      obtain ⟨hv2, hv3⟩ := hv1
      have HS := hid hs
      have HL := hid hl
      have HV := hid hv
      clear hs hl hv h1
      have hk3 : (k : Int) < 3 := by omega
      by_cases hm : v < l
      · have hmd : decide (v < l) = true := by simp [hm]
        go_wp2_with first
          | (refine wpList_load55 rfl (.tmp 15) rfl g (k * 24) rfl win R.out.1 R.out.2 ?_)
          | (refine wpList_store55 rfl (.tmp 7) (.tmp 16) rfl wr.heap.size win (List.replicate 24 0) rfl rfl (Blk.new 55 wr (List.replicate 24 0) _ rfl) rfl R.out.2 ?_; intro w2 hb2 ho2; have q := hb2.cell (cc * 3) (by have := R.out.2; omega); rw [HQ.out] at q; have HO := hid ho2; clear hb2 ho2)
        go_roundw
        case rel =>
          refine ⟨k + 1, by omega, by go_num, ?_, ?_, ?_⟩
          · simp only [sumW, HS.out, HV.out]
          · simp only [leastW, HL.out, HV.out]; simp [hm]
          · exact Only.below (B.out.alloc hsz _) HO.out (by omega) (by simp; omega)
        case measure => simp [intOf]; omega
      · have hmd : decide (v < l) = false := by simp; omega
        go_wp2_with first
          | (refine wpList_load55 rfl (.tmp 15) rfl g (k * 24) rfl win R.out.1 R.out.2 ?_)
          | (refine wpList_store55 rfl (.tmp 7) (.tmp 16) rfl wr.heap.size win (List.replicate 24 0) rfl rfl (Blk.new 55 wr (List.replicate 24 0) _ rfl) rfl R.out.2 ?_; intro w2 hb2 ho2; have q := hb2.cell (cc * 3) (by have := R.out.2; omega); rw [HQ.out] at q; have HO := hid ho2; clear hb2 ho2)
        go_roundw
        case rel =>
          refine ⟨k + 1, by omega, by go_num, ?_, ?_, ?_⟩
          · simp only [sumW, HS.out, HV.out]
          · simp only [leastW, HL.out, HV.out]; simp [hm]
          · exact Only.below (B.out.alloc hsz _) HO.out (by omega) (by simp; omega)
        case measure => simp [intOf]; omega
    · obtain rfl : k = n := by omega
      go_wp2_with fail
      go_ret2
      exact ⟨rfl, B.out⟩
end Go.Proofs.Ytkfpkgamjpdhaaa.Au
