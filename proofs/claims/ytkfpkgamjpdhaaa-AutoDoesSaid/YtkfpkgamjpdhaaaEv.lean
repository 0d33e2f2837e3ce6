/- evicted: how many of a class's items were, in all windows, and in the one with the fewest. Conditions: those that each contract names. -/
import Derived.Test.YtkfpkgamjpdhaaaArr
namespace Go.Proofs.Ytkfpkgamjpdhaaa.Au
open Go.RowKit
set_option linter.unusedVariables false
set_option linter.unusedSimpArgs false
def evAt (ws : List (List Int)) (c i : Nat) : Int := (ws.getD i []).getD (3 * c) 0
def sumW (ws : List (List Int)) (c : Nat) : Nat → Int
  | 0 => 0
  | k + 1 => sumW ws c k + evAt ws c k
def leastW (ws : List (List Int)) (c : Nat) : Nat → Int
  | 0 => 9223372036854775807
  | k + 1 => if evAt ws c k < leastW ws c k then evAt ws c k else leastW ws c k
theorem sumW_range {ws : List (List Int)} {c n : Nat} (h : ∀ i, i < n → 0 ≤ evAt ws c i ∧ evAt ws c i ≤ 2147483647) : ∀ k, k ≤ n → 0 ≤ sumW ws c k ∧ sumW ws c k ≤ k * 2147483647 := by
  intro k
  induction k with
  | zero => intro _; simp [sumW]
  | succ k ih =>
    intro hk
    have h1 := ih (by omega)
    have h2 := h k (by omega)
    simp only [sumW]
    omega
theorem leastW_range {ws : List (List Int)} {c n : Nat} (h : ∀ i, i < n → 0 ≤ evAt ws c i ∧ evAt ws c i ≤ 2147483647) : ∀ k, k ≤ n → 0 ≤ leastW ws c k ∧ leastW ws c k ≤ 9223372036854775807 := by
  intro k
  induction k with
  | zero => intro _; simp [leastW]
  | succ k ih =>
    intro hk
    have h1 := ih (by omega)
    have h2 := h k (by omega)
    simp only [leastW]
    split <;> omega
theorem range_own {w : World} {base g cap n : Nat} {ws : List (List Int)} (hn : ws.length = n) (hw : ∀ l ∈ ws, l.length = 24)
    (h : w.ownsRow base 55 24 (.slice (some ⟨g, 0, none⟩) n cap) n (nums ws.flatten)) (k : Nat) (hk : k < n) : w.rangeAt g (k * 24) (nums (ws.getD k [])) ∧ (ws.getD k []).length = 24 := by
  have hg : ws.getD k [] = ws[k] := by simp [hn, hk]
  have h24 : (ws.getD k []).length = 24 := by rw [hg]; exact hw _ (List.getElem_mem ..)
  refine ⟨fun j v hv => ?_, h24⟩
  have hj : j < 24 := by
    have := (List.getElem?_eq_some_iff.1 hv).1
    simp only [nums, List.length_map] at this
    omega
  rw [h.cellAt (k * 24 + j) (by have : (k + 1) * 24 ≤ n * 24 := Nat.mul_le_mul_right 24 hk; omega)]
  have e : (ws.drop k).flatten = ws.flatten.drop (k * 24) := flat_drop hw k
  have e2 : ws.drop k = ws[k] :: ws.drop (k + 1) := List.drop_eq_getElem_cons (by omega)
  have e3 : (ws.flatten)[k * 24 + j]? = (ws.getD k [])[j]? := by
    have : (ws.flatten.drop (k * 24))[j]? = (ws.getD k [])[j]? := by
      rw [← e, e2, List.flatten_cons, hg, List.getElem?_append_left (by rw [← hg]; omega)]
    rw [← this, List.getElem?_drop]
  rw [← hv]
  unfold nums
  rw [List.getElem?_map, List.getElem?_map, e3]
/-- The load of a window, at a plain region's list. -/
theorem wpList_load55 {ops : Array Oper} {rest : List Oper} {op : Oper} {a : Act} {w : World} {Q : Exit → Act → World → Prop} (hgd : op.guard = none) (x : Operand) (ho : op.op = .load 55 x)
    (b o : Nat) (hx : a.eval x = .pointer (some ⟨b, o, none⟩)) (win : List Int) (hc : w.rangeAt b o (nums win)) (h24 : win.length = 24)
    (h : wpList Try.prog ops Q rest (a.put op.dst (.agg (nums win).toArray)) w) : wpList Try.prog ops Q (op :: rest) a w :=
  wpList_load_mid hgd 55 x ho b o hx (nums win) (.array 8 48) hc row55 rfl (by rw [size55]; simp [nums, h24]) h
theorem blk_setCells {w : World} {g : Nat} {l win : List Int} (hb : Blk 55 w g l) (hl : l.length = win.length) : Blk 55 (w.setCells g 0 (nums win)) g win ∧ Only g w (w.setCells g 0 (nums win)) := by
  have key : ∀ (vs : List Int) (k : Nat) (w : World) (l : List Int), Blk 55 w g l → k + vs.length ≤ l.length →
      Blk 55 (w.setCells g k (nums vs)) g (l.take k ++ vs ++ l.drop (k + vs.length)) ∧ Only g w (w.setCells g k (nums vs)) := by
    intro vs
    induction vs with
    | nil => intro k w l h hk; exact ⟨by simpa [nums, World.setCells] using h, Only.refl _ _⟩
    | cons v r ih =>
      intro k w l h hk
      simp only [List.length_cons] at hk
      have h1 := h.set k v
      have h2 := ih (k + 1) _ _ h1 (by simp; omega)
      have e : nums (v :: r) = .int .i64 v :: nums r := rfl
      rw [e, World.setCells]
      refine ⟨?_, (Only.set g k w _).trans h2.2⟩
      have e2 : (l.set k v).take (k + 1) ++ r ++ (l.set k v).drop (k + 1 + r.length) = l.take k ++ (v :: r) ++ l.drop (k + (v :: r).length) := by
        rw [List.drop_set_of_lt (by omega), List.take_set, List.take_succ_eq_append_getElem (by omega), List.set_append_right _ _ (by simp; omega)]
        have e3 : k - (l.take k).length = 0 := by simp; omega
        rw [e3]
        simp
        congr 1; omega
      rw [← e2]
      exact h2.1
  have := key win 0 w l hb (by omega)
  have e : l.take 0 ++ win ++ l.drop (0 + win.length) = win := by rw [List.drop_eq_nil_of_le (by omega)]; simp
  rw [e] at this
  exact this
/-- The store of a window into a block of its own, at a plain region's list. -/
theorem wpList_store55 {ops : Array Oper} {rest : List Oper} {op : Oper} {a : Act} {w : World} {Q : Exit → Act → World → Prop} (hgd : op.guard = none) (x y : Operand) (ho : op.op = .store 55 x y)
    (g : Nat) (win l : List Int) (hx : a.eval x = .pointer (some ⟨g, 0, none⟩)) (hy : a.eval y = .agg (nums win).toArray) (hb : Blk 55 w g l) (hl : l.length = 24) (h24 : win.length = 24)
    (h : ∀ w', Blk 55 w' g win → Only g w w' → wpList Try.prog ops Q rest (a.put op.dst undef) w') : wpList Try.prog ops Q (op :: rest) a w := by
  have hs := blk_setCells hb (by omega : l.length = win.length)
  refine wpList_store_mid hgd 55 x y ho g 0 (nums win).toArray hx hy ?_ (by rw [size55]; simp [nums, h24]) (all_oneCell_toArray (ones win)) (h _ (by simpa using hs.1) (by simpa using hs.2))
  intro j hj
  have hj2 : j < l.length := by simp [nums] at hj; omega
  rw [Nat.zero_add]
  exact ⟨by rw [hb.cell j hj2]; rfl, hb.free j⟩
end Go.Proofs.Ytkfpkgamjpdhaaa.Au
