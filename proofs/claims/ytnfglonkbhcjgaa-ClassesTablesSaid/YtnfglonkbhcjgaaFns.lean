/- PerPage, Waste, For and their doubles in the document, one contract each. Conditions: those that each contract names. -/
import Derived.Test.YtnfglonkbhcjgaaTab
namespace Go.Proofs.Ytnfglonkbhcjgaa.Cs
open Go.RowKit
set_option linter.unusedVariables false
set_option linter.unusedSimpArgs false

theorem rpage_any (n : Int) (w : World) : Calls Try.prog 16 #[.int .i64 n] w fun e w' => e = .returned (.int .i64 (if n < 1 then 0 else 1024 / n)) ∧ w = w' := by
  by_cases h : n < 1
  · go_enter Try.func16, Try.ntmps16
    go_wp2
    go_ret
    exact ⟨by simp [h], rfl⟩
  · have hz : n ≠ 0 := by omega
    have h1 : 0 ≤ 1024 / n := Int.ediv_nonneg (by omega) (by omega)
    have h2 : 1024 / n ≤ 1024 := Int.ediv_le_self _ (by omega)
    have h3 : (n == 0) = false := by simp; omega
    have h4 : 0 < n := by omega
    go_enter Try.func16, Try.ntmps16
    go_wp2
    go_ret
    exact ⟨by simp [h], rfl⟩
theorem waste_any (n : Int) (w : World) : Calls Try.prog 17 #[.int .i64 n] w fun e w' => e = .returned (.int .i64 (if n < 1 then 1024 else 1024 % n)) ∧ w = w' := by
  by_cases h : n < 1
  · go_enter Try.func17, Try.ntmps17
    go_wp2
    go_ret
    exact ⟨by simp [h], rfl⟩
  · have hz : n ≠ 0 := by omega
    have h1 : 0 ≤ 1024 % n := Int.emod_nonneg _ (by omega)
    have h3 : (n == 0) = false := by simp; omega
    have h4 : 0 < n := by omega
    go_enter Try.func17, Try.ntmps17
    go_wp2
    go_ret
    exact ⟨by simp [h], rfl⟩
theorem rwaste_any (n : Int) (w : World) : Calls Try.prog 18 #[.int .i64 n] w fun e w' => e = .returned (.int .i64 (if n < 1 then 1024 else 1024 % n)) ∧ w = w' := by
  by_cases h : n < 1
  · go_enter Try.func18, Try.ntmps18
    go_wp2_with fail
    refine (rpage_any _ _).mono ?_; rintro e w' ⟨rfl, rfl⟩
    rw [if_pos (by omega)]
    go_wp2_with fail
    go_ret
    exact ⟨by simp [h], rfl⟩
  · have h1 : 0 ≤ 1024 / n := Int.ediv_nonneg (by omega) (by omega)
    have h2 : 1024 / n ≤ 1024 := Int.ediv_le_self _ (by omega)
    have h3 : 1024 / n * n + 1024 % n = 1024 := Int.ediv_mul_add_emod 1024 n
    have h4 : 0 ≤ 1024 % n := Int.emod_nonneg _ (by omega)
    have h5 : 0 ≤ 1024 / n * n := Int.mul_nonneg h1 (by omega)
    have h6 : 1024 / n * n ≤ 1024 := by omega
    have e : 1024 - 1024 / n * n = 1024 % n := by omega
    have E := hid e
    clear e h3 h4
    go_enter Try.func18, Try.ntmps18
    go_wp2_with fail
    refine (rpage_any _ _).mono ?_; rintro e w' ⟨rfl, rfl⟩
    rw [if_neg (by omega)]
    go_wp2_with fail
    go_ret
    exact ⟨by simp [h, E.out], rfl⟩

/-- The place of the first that is at least n; the length, if there is none. -/
def firstAt (n : Int) : List Int → Nat
  | [] => 0
  | z :: r => if n ≤ z then 0 else firstAt n r + 1
theorem firstAt_at (n : Int) (zs : List Int) (k : Nat) (hk : k < zs.length) (h : ∀ i, i < k → zs.getD i 0 < n) (hn : n ≤ zs.getD k 0) : firstAt n zs = k := by
  induction zs generalizing k with
  | nil => simp at hk
  | cons z r ih =>
    cases k with
    | zero => simp at hn; simp [firstAt, hn]
    | succ k =>
      have h0 := h 0 (by omega)
      simp at h0
      have := ih k (by simpa using hk) (fun i hi => by simpa using h (i + 1) (by omega)) (by simpa using hn)
      unfold firstAt
      rw [if_neg (by omega), this]
theorem firstAt_none (n : Int) (zs : List Int) (h : ∀ i, i < zs.length → zs.getD i 0 < n) : firstAt n zs = zs.length := by
  induction zs with
  | nil => rfl
  | cons z r ih =>
    have h0 := h 0 (by simp)
    simp at h0
    have := ih (fun i hi => by simpa using h (i + 1) (by simpa using hi))
    unfold firstAt
    rw [if_neg (by omega), this]; rfl
def forV (zs : List Int) (n : Int) : Int := if n < 0 then 0 else if firstAt n zs < zs.length then firstAt n zs else 0
def forE (zs : List Int) (n : Int) : Int := if n < 0 then 1 else if firstAt n zs < zs.length then 0 else 7
theorem ret2_int {a b c d : Int} (h : a = b) (h' : c = d) : Ending.returned (.tuple #[.int .i64 a, .int .i64 c]) = .returned (.tuple #[.int .i64 b, .int .i64 d]) := by rw [h, h']

theorem for_any (A : Option Addr) (n c : Nat) (zs : List Int) (x : Int) (w : World) (hl : IsInts w A n zs) (hn : n ≤ 9223372036854775807) :
    Calls Try.prog 13 #[.slice A n c, .int .i64 x] w fun e w' => e = .returned (.tuple #[.int .i64 (forV zs x), .int .i64 (forE zs x)]) ∧ w = w' := by
  have HL := hid hl
  clear hl
  by_cases hx : x < 0
  · go_enter Try.func13, Try.ntmps13
    go_wp2
    go_ret2
    exact ⟨ret2_int (by simp [forV, hx]) (by simp [forE, hx]), rfl⟩
  · have hx' : 0 ≤ x := by omega
    go_enter Try.func13, Try.ntmps13
    go_wp2_with fail
    go_loop [12] (fun i => ∃ k : Nat, k ≤ n ∧ i = .int .i64 k ∧ Hid (∀ i, i < k → zs.getD i 0 < x)) (fun i => n - (intOf i).toNat)
    case atStart => exact ⟨0, Nat.zero_le _, rfl, hid (fun i hi => absurd hi (by omega))⟩
    case round =>
      obtain ⟨k, hk, rfl, HF⟩ := hrel
      by_cases hlt : k < n
      · obtain ⟨b, off, hA, hb, hc⟩ : ∃ b off, A = some ⟨b, off, none⟩ ∧ b < w.heap.size ∧ ∀ i, i < n → w.cell? ⟨b, off + i, none⟩ = some (.int .i64 (zs.getD i 0)) := by
          rcases HL.out with ⟨_, h0 | h⟩
          · omega
          · exact h
        subst hA
        have ha := hc k hlt
        clear hc
        have hz : zs.length = n := HL.out.1
        have HZ := hid hz
        clear hz
        obtain ⟨z, hz⟩ : ∃ z, zs.getD k 0 = z := ⟨_, rfl⟩
        rw [hz] at ha
        have HY := hid hz
        clear hz
        by_cases hge : x ≤ z
        · go_wp2_with fail
          go_ret2
          have hf : firstAt x zs = k := firstAt_at x zs k (by rw [HZ.out]; exact hlt) HF.out (by rw [HY.out]; exact hge)
          exact ⟨ret2_int (by unfold forV; rw [if_neg (by omega), if_pos (by rw [hf, HZ.out]; exact hlt), hf]) (by unfold forE; rw [if_neg (by omega), if_pos (by rw [hf, HZ.out]; exact hlt)]), rfl⟩
        · go_wp2_with fail
          go_round
          case rel => exact ⟨k + 1, by omega, by go_num, hid (fun i hi => by
            rcases Nat.lt_or_ge i k with h | h
            · exact HF.out i h
            · have : i = k := by omega
              subst this; rw [HY.out]; omega)⟩
          case measure => simp [intOf]; omega
      · obtain rfl : k = n := by omega
        go_wp2_with fail
        go_ret2
        have hz : zs.length = k := HL.out.1
        have hf : firstAt x zs = zs.length := firstAt_none x zs (fun i hi => HF.out i (by omega))
        exact ⟨ret2_int (by unfold forV; rw [if_neg (by omega), if_neg (by omega)]) (by unfold forE; rw [if_neg (by omega), if_neg (by omega)]), rfl⟩
theorem rfor_any (A : Option Addr) (n c : Nat) (zs : List Int) (x : Int) (w : World) (hl : IsInts w A n zs) (hn : n ≤ 9223372036854775807) :
    Calls Try.prog 14 #[.slice A n c, .int .i64 x] w fun e w' => e = .returned (.tuple #[.int .i64 (forV zs x), .int .i64 (forE zs x)]) ∧ w = w' := by
  have HL := hid hl
  clear hl
  by_cases hx : x < 0
  · go_enter Try.func14, Try.ntmps14
    go_wp2
    go_ret2
    exact ⟨ret2_int (by simp [forV, hx]) (by simp [forE, hx]), rfl⟩
  · have hx' : 0 ≤ x := by omega
    go_enter Try.func14, Try.ntmps14
    go_wp2_with fail
    go_loop [6] (fun i => ∃ k : Nat, k ≤ n ∧ i = .int .i64 k ∧ Hid (∀ i, i < k → zs.getD i 0 < x)) (fun i => n - (intOf i).toNat)
    case atStart => exact ⟨0, Nat.zero_le _, rfl, hid (fun i hi => absurd hi (by omega))⟩
    case round =>
      obtain ⟨k, hk, rfl, HF⟩ := hrel
      by_cases hlt : k < n
      · obtain ⟨b, off, hA, hb, hc⟩ : ∃ b off, A = some ⟨b, off, none⟩ ∧ b < w.heap.size ∧ ∀ i, i < n → w.cell? ⟨b, off + i, none⟩ = some (.int .i64 (zs.getD i 0)) := by
          rcases HL.out with ⟨_, h0 | h⟩
          · omega
          · exact h
        subst hA
        have ha := hc k hlt
        clear hc
        have hz : zs.length = n := HL.out.1
        have HZ := hid hz
        clear hz
        obtain ⟨z, hz⟩ : ∃ z, zs.getD k 0 = z := ⟨_, rfl⟩
        rw [hz] at ha
        have HY := hid hz
        clear hz
        by_cases hge : x ≤ z
        · go_wp2_with fail
          go_ret2
          have hf : firstAt x zs = k := firstAt_at x zs k (by rw [HZ.out]; exact hlt) HF.out (by rw [HY.out]; exact hge)
          exact ⟨ret2_int (by unfold forV; rw [if_neg (by omega), if_pos (by rw [hf, HZ.out]; exact hlt), hf]) (by unfold forE; rw [if_neg (by omega), if_pos (by rw [hf, HZ.out]; exact hlt)]), rfl⟩
        · go_wp2_with fail
          go_round
          case rel => exact ⟨k + 1, by omega, by go_num, hid (fun i hi => by
            rcases Nat.lt_or_ge i k with h | h
            · exact HF.out i h
            · have : i = k := by omega
              subst this; rw [HY.out]; omega)⟩
          case measure => simp [intOf]; omega
      · obtain rfl : k = n := by omega
        go_wp2_with fail
        go_ret2
        have hz : zs.length = k := HL.out.1
        have hf : firstAt x zs = zs.length := firstAt_none x zs (fun i hi => HF.out i (by omega))
        exact ⟨ret2_int (by unfold forV; rw [if_neg (by omega), if_neg (by omega)]) (by unfold forE; rw [if_neg (by omega), if_neg (by omega)]), rfl⟩
end Go.Proofs.Ytnfglonkbhcjgaa.Cs
