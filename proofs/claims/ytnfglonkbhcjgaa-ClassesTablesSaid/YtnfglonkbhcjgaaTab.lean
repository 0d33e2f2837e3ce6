/- The classes' functions, one contract each: Table, PerPage, and the table's numbers. Conditions: those that each contract names. -/
import Derived.Test.YtnfglonkbhcjgaaInts
import Derived.Deep.QuietTactic
import Derived.BigQuiet
import Derived.Deep.LoopGhost
import Derived.Deep.CutRange
import Derived.Deep.DeepCutAuto
namespace Go.Proofs.Ytnfglonkbhcjgaa.Cs
open Go.RowKit
set_option linter.unusedVariables false
set_option linter.unusedSimpArgs false
theorem hid {p : Prop} (h : p) : Hid p := h
theorem info3 : (Try.prog.info? 3).map (fun i => (i.zero, i.size, i.bytes)) = some (some (.int .i64 0), 1, 8) := by kernel_rfl
def nums (l : List Int) : List Value := l.map (Value.int .i64)
/-- append(s, y), s the call's own row of numbers. -/
theorem app1 {w : World} {ops : Array Oper} {rest : List Oper} {o : Oper} {a : Act} {Q : Exit → Act → World → Prop} (hgd : o.guard = none) (s x : Operand)
    (ho : o.op = .call { callee := .builtin .append, args := #[s, x], argTypes := #[22, 22] }) (base : Nat) (v : Value) (n : Nat) (xs : List Int) (hs : a.eval s = v)
    (hown : w.ownsRow base 3 1 v n (nums xs)) (nb : Nat) (y : Int) (hx : a.eval x = .slice (some ⟨nb, 0, none⟩) 1 1) (hc : w.cell? ⟨nb, 0, none⟩ = some (.int .i64 y)) (hn : n ≤ 1000) (hbase : base ≤ w.heap.size)
    (W : World) (hb : Below base W w)
    (h : ∀ g c w', base ≤ w'.heap.size → w'.ownsRow base 3 1 (.slice (some ⟨g, 0, none⟩) (n + 1) c) (n + 1) (nums (xs ++ [y])) → Below base W w' → wpList Try.prog ops Q rest (a.put o.dst (.slice (some ⟨g, 0, none⟩) (n + 1) c)) w') :
    wpList Try.prog ops Q (o :: rest) a w := by
  obtain ⟨i0, hi, hz0, hz1, hz2⟩ := info_parts info3
  refine wpList_append_own w hgd s x 22 ho base 3 i0 (.int .i64 0) 1 8 Try.underlying22 hi hz0 hz1 hz2 rfl (by decide) v n (nums xs) hs hown ⟨nb, 0, none⟩ 1 1 [.int .i64 y] hx rfl ?_ ?_ (by unfold maxLen; omega) (by omega) hbase ?_
  · intro j u hj
    match j, hj with
    | 0, hj => simp at hj; subst hj; exact hc
    | j + 1, hj => simp at hj
  · intro u hu; simp at hu; subst hu; rfl
  · intro v' w' hown' hg _
    have hb' := hb.grown hg hbase (fun k hk => by
      obtain ⟨_, h2⟩ := hown
      rcases h2 with ⟨rfl, _⟩ | ⟨g, cap, cur, rfl, hg, _⟩
      · simp [Value.ownBlock] at hk
      · simp [Value.ownBlock] at hk; omega)
    have hown2 := hown'
    obtain ⟨_, h2⟩ := hown'
    rcases h2 with ⟨_, h0⟩ | ⟨g, cap, cur, rfl, _⟩
    · omega
    · refine h g cap w' (Nat.le_trans hbase hg.size) ?_ hb'
      simpa [nums] using hown2

theorem and_mask2 : ∀ a : Fin 64, ∀ b : Fin 64, (a.val * 64 + b.val) &&& 18446744073709551608 = (a.val * 64 + b.val) / 8 * 8 := by decide +kernel
theorem and_mask (x : Fin 4096) : x.val &&& 18446744073709551608 = x.val / 8 * 8 := by
  have h := and_mask2 ⟨x.val / 64, by omega⟩ ⟨x.val % 64, by omega⟩
  have e : x.val / 64 * 64 + x.val % 64 = x.val := by omega
  simp only [e] at h
  exact h
theorem ofInt_64 (a : Nat) (ha : a < 18446744073709551616) : (BitVec.ofInt 64 (a : Int)).toNat = a := by
  rw [BitVec.ofInt_natCast, BitVec.toNat_ofNat]; exact Nat.mod_eq_of_lt (by omega)
theorem andNot7 (x : Int) (h0 : 0 ≤ x) (h1 : x < 4096) : bits .andNot .i64 x 7 = x / 8 * 8 := by
  obtain ⟨n, rfl⟩ := Int.eq_ofNat_of_zero_le h0
  show IntKind.i64.wrap ((BitVec.ofInt 64 (n : Int) &&& ~~~BitVec.ofInt 64 ((7 : Nat) : Int)).toNat : Int) = _
  have e : 2 ^ 64 - 1 - 7 = 18446744073709551608 := by decide
  rw [BitVec.toNat_and, BitVec.toNat_not, ofInt_64 n (by omega), ofInt_64 7 (by omega), e, and_mask ⟨n, by omega⟩]
  have : IntKind.i64.wrap ((n / 8 * 8 : Nat) : Int) = ((n / 8 * 8 : Nat) : Int) := by
    rw [IntKind.wrap_i64]; omega
  rw [this]
  omega

/-- The next size. -/
def nextS (o u t : Int) : Int := if (t * o / u + 7) / 8 * 8 < t + 8 then t + 8 else (t * o / u + 7) / 8 * 8
/-- The sizes from t on, k at most. -/
def fill (o u : Int) : Nat → Int → List Int
  | 0, _ => []
  | k + 1, t => t :: (if 512 < nextS o u t then [] else fill o u k (nextS o u t))
def tab (o u : Int) : List Int := fill o u 7 64 ++ [1024]


def lenOf : Value → Nat | .slice _ n _ => n | _ => 0
/-- A row of numbers of the call's own. -/
def OwnInts (w : World) (base : Nat) (v : Value) (zs : List Int) : Prop :=
  ∃ g c, v = .slice (some ⟨g, 0, none⟩) zs.length c ∧ base ≤ g ∧ w.ownsRow base 3 1 v zs.length (nums zs)
theorem fill_stop (o u t : Int) (k : Nat) (h : 512 < nextS o u t) : fill o u (k + 1) t = [t] := by simp [fill, h]
theorem fill_last (o u t : Int) : fill o u 1 t = [t] := by simp [fill]
theorem fill_next (o u t : Int) (k : Nat) (h : ¬ 512 < nextS o u t) : fill o u (k + 1) t = t :: fill o u k (nextS o u t) := by simp [fill, h]

set_option maxHeartbeats 1000000 in
theorem table_yes (o u : Int) (w : World) (h1 : 1 ≤ u) (h2 : u ≤ 100) (h3 : u < o) (h4 : o ≤ 4 * u):
    Calls Try.prog 10 #[.int .i64 o, .int .i64 u] w fun e w' => ∃ v, e = .returned (.tuple #[v, .int .i64 0]) ∧ OwnInts w' w.heap.size v (tab o u) ∧ Below w.heap.size w w' := by
  have h5 : 4 * u ≤ 400 := by omega
  have h6 : o ≤ 400 := by omega
  go_enter Try.func10, Try.ntmps10
  go_wp2_with fail
  go_step3
  go_wp2_with fail
  go_step3
  go_wp2_with fail
  go_loopw [6, 7] (fun v i wr => ∃ (k : Nat) (t : Int) (A : Option Addr) (c : Nat) (acc : List Int), k ≤ 6 ∧ acc.length = k ∧ acc ++ fill o u (7 - k) t = fill o u 7 64 ∧ v = .slice A k c ∧ i = .int .i64 t ∧ 64 ≤ t ∧ t ≤ 512 ∧ wr.ownsRow w.heap.size 3 1 (.slice A k c) k (nums acc) ∧ Below w.heap.size w wr) (fun v _ _ => 7 - lenOf v)
  case atStart => exact ⟨0, 64, none, 0, [], by omega, rfl, rfl, rfl, rfl, by omega, by omega, ⟨rfl, .inl ⟨rfl, rfl⟩⟩, Below.refl _ _⟩
  case round =>
    obtain ⟨k, t, A, c, acc, hk, hlen, hfill, rfl, rfl, t0, t1, ho, hb⟩ := hrel
    have HL := hid hlen
    have HF := hid hfill
    clear hlen hfill
    have hsz := hb.size
    have b1 : t * o ≤ 204800 := by
      have := Int.mul_le_mul t1 h6 (by omega) (by omega)
      omega
    have b0 : 0 ≤ t * o := Int.mul_nonneg (by omega) (by omega)
    have q0 : 0 ≤ t * o / u := Int.ediv_nonneg b0 (by omega)
    have q1 : t * o / u ≤ 2048 := by
      have h : t * o ≤ t * (4 * u) := Int.mul_le_mul_of_nonneg_left h4 (by omega)
      have h' : t * o / u ≤ t * 4 := Int.ediv_le_of_le_mul (by omega) (by rw [Int.mul_assoc]; exact h)
      omega
    go_upto_region 7 with (at_builtin; refine app1 rfl _ _ rfl w.heap.size _ k acc rfl (ho.alloc _) wr.heap.size t rfl (by go_simp) (by omega) (by simp; omega) w (hb.alloc hsz _) ?_; intro g c1 w1 hsz1 ho1 hb1)
    rw [show t * o / u + 8 - 1 = t * o / u + 7 from by omega, andNot7 _ (by omega) (by omega)]
    have e0 : nextS o u t = if (t * o / u + 7) / 8 * 8 < t + 8 then t + 8 else (t * o / u + 7) / 8 * 8 := rfl
    have hq0 : 0 ≤ (t * o / u + 7) / 8 * 8 := by omega
    have hq1 : (t * o / u + 7) / 8 * 8 ≤ 2056 := by omega
    clear q0 q1 b0 b1
    generalize (t * o / u + 7) / 8 * 8 = q at *
    have hn0 : t + 8 ≤ nextS o u t := by rw [e0]; split <;> omega
    have hn1 : nextS o u t ≤ 2056 := by rw [e0]; split <;> omega
    generalize hN : nextS o u t = t' at *
    have HN := hid hN
    clear hN
    have e1 := e0.symm
    clear e0
    go_upto_region 8 with fail
    clear e1
    by_cases hs : 512 < t'
    · have hT : acc ++ [t] ++ [1024] = tab o u := by
        have h := HF.out
        obtain ⟨j, hj⟩ : ∃ j, 7 - k = j + 1 := ⟨6 - k, by omega⟩
        rw [hj, fill_stop o u t j (by rw [HN.out]; exact hs)] at h
        rw [h]; rfl
      have hTl : (tab o u).length = k + 2 := by rw [← hT]; simp [HL.out]
      have HT := hid hT
      have HTl := hid hTl
      clear hT hTl
      go_wp2_with (at_builtin; refine app1 rfl _ _ rfl w.heap.size _ (k + 1) (acc ++ [t]) rfl (ho1.alloc _) w1.heap.size 1024 rfl (by go_simp) (by omega) (by simp; omega) w (hb1.alloc hsz1 _) ?_; intro g2 c2 w2 hsz2 ho2 hb2)
      (try rw [Exit.noGoto_ret])
      go_ret2
      rw [HT.out] at ho2
      refine ⟨_, rfl, ⟨g2, c2, by rw [HTl.out]; rfl, ?_, by rw [HTl.out]; exact ho2⟩, hb2⟩
      obtain ⟨_, h | ⟨g3, _, _, h3, h4, _⟩⟩ := ho2
      · cases h.1
      · cases h3; exact h4
    · by_cases h7 : k = 6
      · have hT : acc ++ [t] ++ [1024] = tab o u := by
          have h := HF.out
          rw [h7, fill_last] at h
          rw [h]; rfl
        have hTl : (tab o u).length = k + 2 := by rw [← hT]; simp [HL.out]
        have hb7 : ((k : Int) + 1 == 7) = true := by simp; omega
        have HT := hid hT
        have HTl := hid hTl
        clear hT hTl h7
        go_wp2_with (at_builtin; refine app1 rfl _ _ rfl w.heap.size _ (k + 1) (acc ++ [t]) rfl (ho1.alloc _) w1.heap.size 1024 rfl (by go_simp) (by omega) (by simp; omega) w (hb1.alloc hsz1 _) ?_; intro g2 c2 w2 hsz2 ho2 hb2)
        (try rw [Exit.noGoto_ret])
        go_ret2
        rw [HT.out] at ho2
        refine ⟨_, rfl, ⟨g2, c2, by rw [HTl.out]; rfl, ?_, by rw [HTl.out]; exact ho2⟩, hb2⟩
        obtain ⟨_, h | ⟨g3, _, _, h3, h4, _⟩⟩ := ho2
        · cases h.1
        · cases h3; exact h4
      · have hk5 : k + 1 ≤ 6 := by omega
        have hb7 : ((k : Int) + 1 == 7) = false := by simp; omega
        clear h7
        go_wp2_with fail
        go_roundw
        case rel => 
          exact ⟨k + 1, t', _, c1, acc ++ [t], hk5, by simp [HL.out], by
            have h := HF.out
            obtain ⟨j, hj⟩ : ∃ j, 7 - k = j + 1 := ⟨6 - k, by omega⟩
            rw [hj, fill_next o u t j (by rw [HN.out]; exact hs), HN.out] at h
            rw [show 7 - (k + 1) = j from by omega, List.append_assoc]
            exact h, rfl, rfl, by omega, by omega, ho1, hb1⟩
        case measure => simp [lenOf]; omega
theorem table_no (o u : Int) (w : World) (h : u < 1 ∨ 100 < u ∨ o ≤ u ∨ 4 * u < o) :
    Calls Try.prog 10 #[.int .i64 o, .int .i64 u] w fun e w' => e = .returned (.tuple #[.slice none 0 0, .int .i64 1]) ∧ w = w' := by
  by_cases h1 : u < 1
  · clear h
    go_enter Try.func10, Try.ntmps10
    go_wp2_with fail
    go_step3
    go_wp2_with fail
    (try rw [Exit.noGoto_ret])
    go_ret2
    exact ⟨rfl, rfl⟩
  · by_cases h2 : 100 < u
    · clear h
      go_enter Try.func10, Try.ntmps10
      go_wp2_with fail
      go_step3
      go_wp2_with fail
      (try rw [Exit.noGoto_ret])
      go_ret2
      exact ⟨rfl, rfl⟩
    · have h5 : 4 * u ≤ 400 := by omega
      have h6 : 0 ≤ 4 * u := by omega
      by_cases h3 : o ≤ u
      · clear h
        go_enter Try.func10, Try.ntmps10
        go_wp2_with fail
        go_step3
        go_wp2_with fail
        (try rw [Exit.noGoto_ret])
        go_ret2
        exact ⟨rfl, rfl⟩
      · have h4 : 4 * u < o := by omega
        clear h
        go_enter Try.func10, Try.ntmps10
        go_wp2_with fail
        go_step3
        go_wp2_with fail
        (try rw [Exit.noGoto_ret])
        go_ret2
        exact ⟨rfl, rfl⟩

theorem page_any (n : Int) (w : World) : Calls Try.prog 15 #[.int .i64 n] w fun e w' => e = .returned (.int .i64 (if n < 1 then 0 else 1024 / n)) ∧ w = w' := by
  by_cases h : n < 1
  · go_enter Try.func15, Try.ntmps15
    go_wp2
    go_ret
    exact ⟨by simp [h], rfl⟩
  · have hz : n ≠ 0 := by omega
    have h1 : 0 ≤ 1024 / n := Int.ediv_nonneg (by omega) (by omega)
    have h2 : 1024 / n ≤ 1024 := Int.ediv_le_self _ (by omega)
    have h3 : (n == 0) = false := by simp; omega
    have h4 : 0 < n := by omega
    go_enter Try.func15, Try.ntmps15
    go_wp2
    go_ret
    exact ⟨by simp [h], rfl⟩
end Go.Proofs.Ytnfglonkbhcjgaa.Cs
