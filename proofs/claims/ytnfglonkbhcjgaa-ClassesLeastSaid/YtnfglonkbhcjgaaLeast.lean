/- ClassesLeast: for every over, under and n the call returns true. No condition. -/
import Derived.Test.YtnfglonkbhcjgaaRise
namespace Go.Proofs.Ytnfglonkbhcjgaa.Cs
open Go.RowKit
set_option linter.unusedVariables false
set_option linter.unusedSimpArgs false
theorem firstAt_le (n : Int) (l : List Int) : firstAt n l ≤ l.length := by
  induction l with
  | nil => simp [firstAt]
  | cons z r ih => unfold firstAt; split <;> simp; omega
theorem firstAt_before (n : Int) (l : List Int) : ∀ i, i < firstAt n l → l.getD i 0 < n := by
  induction l with
  | nil => intro i hi; simp [firstAt] at hi
  | cons z r ih =>
    intro i hi
    unfold firstAt at hi
    split at hi
    · omega
    · cases i with
      | zero => simp; omega
      | succ i => simpa using ih i (by omega)
theorem firstAt_here (n : Int) (l : List Int) (h : firstAt n l < l.length) : n ≤ l.getD (firstAt n l) 0 := by
  induction l with
  | nil => simp [firstAt] at h
  | cons z r ih =>
    unfold firstAt at h ⊢
    split
    · simpa
    · rename_i hz
      rw [if_neg hz] at h
      simpa using ih (by simpa using h)
theorem Facts.lt {o u : Int} {l : List Int} (F : Facts o u l) (i j : Nat) (hij : i < j) (hj : j < l.length) : l.getD i 0 < l.getD j 0 := by
  induction j with
  | zero => omega
  | succ j ih =>
    have h1 := F.rise j hj
    rcases Nat.lt_or_ge i j with h | h
    · have := ih h (by omega); omega
    · obtain rfl : i = j := by omega
      exact h1
theorem Facts.own {o u : Int} {l : List Int} (F : Facts o u l) (i : Nat) (hi : i < l.length) : firstAt (l.getD i 0) l = i :=
  firstAt_at _ _ _ hi (fun j hj => F.lt j i hj hi) (Int.le_refl _)

set_option maxRecDepth 100000 in
set_option maxHeartbeats 1600000 in
theorem least_law (ov un nn : Int) (w : World) :
    Calls Try.prog 6 #[.int .i64 ov, .int .i64 un, .int .i64 nn] w fun e w' => e = .returned (.bool true) ∧ Below w.heap.size w w' := by
  obtain ⟨u, eu, u0, u1⟩ := modu1 un 100 (by omega) (by omega)
  have EU := hid eu; clear eu
  obtain ⟨o, eo, o0, o1⟩ := modo ov u u0 u1
  have EO := hid eo; clear eo
  obtain ⟨n, en, n0, n1⟩ := modu nn 1025 (by omega) (by omega)
  have EN := hid en; clear en
  have F := hid (facts o u)
  obtain ⟨l, hl⟩ : ∃ l, tab o u = l := ⟨_, rfl⟩
  rw [hl] at F
  have HL := hid hl
  clear hl
  obtain ⟨m, hm⟩ : ∃ m, l.length = m + 2 := ⟨l.length - 2, by have := F.out.two; omega⟩
  have m6 : m ≤ 6 := by have := F.out.eight; omega
  have M := hid hm
  clear hm
  obtain ⟨k, hk⟩ : ∃ k, firstAt n l = k := ⟨_, rfl⟩
  have hkl : k < m + 2 := by
    rcases Nat.lt_or_ge k (m + 2) with h | h
    · exact h
    · have := firstAt_before n l (m + 1) (by omega)
      have h2 := F.out.last
      rw [M.out] at h2
      rw [show m + 2 - 1 = m + 1 from by omega] at h2
      omega
  have K := hid hk
  have fv : forV l n = k := by unfold forV; rw [if_neg (by omega), if_pos (by rw [hk, M.out]; exact hkl), hk]
  have fe : forE l n = 0 := by unfold forE; rw [if_neg (by omega), if_pos (by rw [hk, M.out]; exact hkl)]
  have FV := hid fv
  have FE := hid fe
  clear hk fv fe
  have h1 : n ≤ l.getD k 0 := by have := firstAt_here n l (by rw [K.out, M.out]; exact hkl); rw [K.out] at this; exact this
  obtain ⟨z, hz⟩ : ∃ z, l.getD k 0 = z := ⟨_, rfl⟩
  rw [hz] at h1
  have Z := hid hz
  clear hz
  go_enter Try.func6, Try.ntmps6
  go_wp2_with fail
  refine (works_any _).mono ?_; rintro e w1 ⟨rfl, hb⟩
  have B1 := hid hb
  clear hb
  go_upto_region 4 with fail
  rw [EU.out]
  go_wp2_with fail
  rw [EO.out]
  refine (table_reads o u l (m + 2) _ u0 u1 o0 o1 HL.out M.out).mono ?_; rintro e w2 ⟨g, c, rfl, hl2, hb2⟩
  have B2 := hid (B1.out.trans (hb2.mono B1.out.size))
  have L2 := hid hl2
  clear hl2 hb2
  have hc : ∀ i, i < m + 2 → w2.cell? ⟨g, i, none⟩ = some (.int .i64 (l.getD i 0)) := by
    intro i hi
    rcases L2.out with ⟨_, h | ⟨b, off, hg, _, h⟩⟩
    · omega
    · cases hg; simpa using h i hi
  have C := hid hc
  clear hc
  go_wp2_with fail
  rw [EN.out]
  refine (for_any _ _ _ l n _ L2.out (by omega)).mono ?_; rintro e w' ⟨rfl, rfl⟩
  rw [FV.out, FE.out]
  have ck := C.out k hkl
  rw [Z.out] at ck
  have hk2 : (k : Int) < (m : Int) + 2 := by omega
  go_upto_region 8 with fail
  go_cut [79] (fun v wx => v = .bool false ∧ w2 = wx)
  case first =>
    cases k with
    | zero =>
      go_wp2_with fail
      go_meet
      exact ⟨congrArg Value.bool (by simp; omega), rfl⟩
    | succ j =>
      have cj := C.out j (by omega)
      have hb := firstAt_before n l j (by rw [K.out]; omega)
      obtain ⟨y, hy⟩ : ∃ y, l.getD j 0 = y := ⟨_, rfl⟩
      rw [hy] at cj hb
      clear hy
      go_wp2_with fail
      go_meet
      exact ⟨congrArg Value.bool (by simp; omega), rfl⟩
  case rest =>
    obtain ⟨rfl, rfl⟩ := hcut
    clear ck hk2
    go_wp2_with fail
    go_loop [11] (fun i => ∃ j : Nat, j ≤ m + 2 ∧ i = .int .i64 j) (fun i => (m + 2) - (intOf i).toNat)
    case atStart => exact ⟨0, by omega, rfl⟩
    case round =>
      obtain ⟨j, hj, rfl⟩ := hrel
      by_cases hlt : j < m + 2
      · have cj := C.out j hlt
        have ho := F.out.own j (by rw [M.out]; exact hlt)
        have hge := (F.out.range j (by rw [M.out]; exact hlt)).1
        have hle : l.getD j 0 ≤ n → j ≤ k := by
          intro h
          rcases Nat.lt_or_ge k j with h' | h'
          · have := F.out.lt k j h' (by rw [M.out]; exact hlt)
            rw [Z.out] at this
            omega
          · exact h'
        obtain ⟨y, hy⟩ : ∃ y, l.getD j 0 = y := ⟨_, rfl⟩
        rw [hy] at cj ho hge hle
        clear hy
        have fv : forV l y = j := by unfold forV; rw [if_neg (by omega), if_pos (by rw [ho, M.out]; exact hlt), ho]
        have fe : forE l y = 0 := by unfold forE; rw [if_neg (by omega), if_pos (by rw [ho, M.out]; exact hlt)]
        have FV' := hid fv
        have FE' := hid fe
        clear fv fe ho
        have hj2 : (j : Int) < (m : Int) + 2 := by omega
        by_cases hy : y ≤ n
        · have hjk : j ≤ k := hle hy
          have hd : decide ((k : Int) < (j : Int)) = false := by simp; omega
          clear hle
          go_wp2_with fail
          refine (for_any _ _ _ l y _ L2.out (by omega)).mono ?_; rintro e w' ⟨rfl, rfl⟩
          rw [FV'.out, FE'.out]
          go_wp2_with fail
          go_round
          case rel => exact ⟨j + 1, by omega, by go_num⟩
          case measure => simp [intOf]; omega
        · clear hle
          go_wp2_with fail
          refine (for_any _ _ _ l y _ L2.out (by omega)).mono ?_; rintro e w' ⟨rfl, rfl⟩
          rw [FV'.out, FE'.out]
          go_wp2_with fail
          go_round
          case rel => exact ⟨j + 1, by omega, by go_num⟩
          case measure => simp [intOf]; omega
      · obtain rfl : j = m + 2 := by omega
        go_wp2_with fail
        go_ret
        exact ⟨rfl, B2.out⟩
end Go.Proofs.Ytnfglonkbhcjgaa.Cs
