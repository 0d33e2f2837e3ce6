/- What an Auto holds in memory; what a call leaves alone; views read; a window being filled. Conditions: those that each lemma names. -/
import Derived.Test.YtkfpkgamjpdhaaaWin
namespace Go.Proofs.Ytkfpkgamjpdhaaa.Au
open Go.RowKit
set_option linter.unusedVariables false
set_option linter.unusedSimpArgs false
/-- A row of views (of either package), read. -/
def IsViews (w : World) (A : Option Addr) (n : Nat) (vs : List (Int × Int × Int)) : Prop :=
  vs.length = n ∧ (n = 0 ∨ ∃ b off, A = some ⟨b, off, none⟩ ∧ b < w.heap.size ∧ ∀ i, i < n → w.cell? ⟨b, off + i * 3, none⟩ = some (.int .i64 (vs.getD i (0, 0, 0)).1) ∧ w.cell? ⟨b, off + i * 3 + 1, none⟩ = some (.int .i64 (vs.getD i (0, 0, 0)).2.1) ∧ w.cell? ⟨b, off + i * 3 + 2, none⟩ = some (.int .i64 (vs.getD i (0, 0, 0)).2.2))
theorem IsViews.below {w w' : World} {A : Option Addr} {n : Nat} {vs : List (Int × Int × Int)} (h : IsViews w A n vs) (hb : Below w.heap.size w w') : IsViews w' A n vs := by
  obtain ⟨h1, h2⟩ := h
  refine ⟨h1, ?_⟩
  rcases h2 with h2 | ⟨b, off, h3, h4, h5⟩
  · exact .inl h2
  · exact .inr ⟨b, off, h3, Nat.lt_of_lt_of_le h4 hb.size, fun i hi => ⟨(hb.cell (p := ⟨b, off + i * 3, none⟩) h4).trans (h5 i hi).1, (hb.cell (p := ⟨b, off + i * 3 + 1, none⟩) h4).trans (h5 i hi).2.1, (hb.cell (p := ⟨b, off + i * 3 + 2, none⟩) h4).trans (h5 i hi).2.2⟩⟩
def okN (x : Int) : Bool := decide (0 ≤ x ∧ x ≤ 2147483647)
def okV (v : Int × Int × Int) : Bool := okN v.1 && okN v.2.1 && okN v.2.2
/-- A window holds the first k views. -/
def WinTo (win : List Int) (vs : List (Int × Int × Int)) (k : Nat) : Prop :=
  win.length = 24 ∧ ∀ c, c < k → win.getD (3 * c) 0 = (vs.getD c (0, 0, 0)).1 ∧ win.getD (3 * c + 1) 0 = (vs.getD c (0, 0, 0)).2.1 ∧ win.getD (3 * c + 2) 0 = (vs.getD c (0, 0, 0)).2.2

def mn3 (x y z : Int) : Int := if z < (if y < x then y else x) then z else (if y < x then y else x)
def mx3 (x y z : Int) : Int := if (if x < y then y else x) < z then z else (if x < y then y else x)
theorem run_min3 (x y z : Int) (w : World) : Sem.run Try.prog (Builtin.min_ #[3, 3, 3] 3 #[.int .i64 x, .int .i64 y, .int .i64 z]) w = .ok (.int .i64 (mn3 x y z)) w := by
  simp only [Builtin.min_, List.foldlM_cons, List.foldlM_nil, Builtin.min2]
  rfl
theorem run_max3 (x y z : Int) (w : World) : Sem.run Try.prog (Builtin.max_ #[3, 3, 3] 3 #[.int .i64 x, .int .i64 y, .int .i64 z]) w = .ok (.int .i64 (mx3 x y z)) w := by
  simp only [Builtin.max_, List.foldlM_cons, List.foldlM_nil, Builtin.max2, gt_iff_lt]
  rfl
theorem mn3_neg (x y z : Int) : mn3 x y z < 0 ↔ x < 0 ∨ y < 0 ∨ z < 0 := by
  unfold mn3
  repeat' split
  all_goals omega
theorem mx3_big (x y z : Int) : 2147483647 < mx3 x y z ↔ 2147483647 < x ∨ 2147483647 < y ∨ 2147483647 < z := by
  unfold mx3
  repeat' split
  all_goals omega
theorem WinTo.step {win : List Int} {vs : List (Int × Int × Int)} {k : Nat} {x y z : Int} (h : WinTo win vs k) (hv : vs.getD k (0, 0, 0) = (x, y, z)) (hk : k < 8) :
    WinTo (((win.set (3 * k) x).set (3 * k + 1) y).set (3 * k + 2) z) vs (k + 1) := by
  obtain ⟨h1, h2⟩ := h
  refine ⟨by simp [h1], fun c hc => ?_⟩
  have g : ∀ i, (((win.set (3 * k) x).set (3 * k + 1) y).set (3 * k + 2) z).getD i 0 = if i = 3 * k + 2 then z else if i = 3 * k + 1 then y else if i = 3 * k then x else win.getD i 0 := by
    intro i
    rw [set_get _ _ _ _ (by simp; omega), set_get _ _ _ _ (by simp; omega), set_get _ _ _ _ (by omega)]
  rw [g, g, g]
  by_cases e : c = k
  · subst e
    rw [hv, if_neg (by omega), if_neg (by omega), if_pos rfl, if_neg (by omega), if_pos rfl, if_pos rfl]
    exact ⟨rfl, rfl, rfl⟩
  · rw [if_neg (by omega), if_neg (by omega), if_neg (by omega), if_neg (by omega), if_neg (by omega), if_neg (by omega), if_neg (by omega), if_neg (by omega), if_neg (by omega)]
    exact h2 c (by omega)
/-- What an Auto holds: a block p of two cells; the row of windows is its own, behind p. -/
structure St (w : World) (p cl : Nat) (ws : List (List Int)) (S : Option Addr) (sc : Nat) : Prop where
  c0 : w.cell? ⟨p, 0, none⟩ = some (.int .i64 cl)
  c1 : w.cell? ⟨p, 1, none⟩ = some (.slice S ws.length sc)
  f1 : w.frozen? ⟨p, 1, none⟩ = false
  own : w.ownsRow (p + 1) 55 24 (.slice S ws.length sc) ws.length (nums ws.flatten)
  wid : ∀ l ∈ ws, l.length = 24
  few : ws.length ≤ 3
/-- Of what was there only block p and the row at S have turned. -/
structure Part (p : Nat) (S : Option Addr) (w w' : World) : Prop where
  os : w'.os = w.os
  tape : w'.tape = w.tape
  output : w'.output = w.output
  size : w.heap.size ≤ w'.heap.size
  block : ∀ k, k < w.heap.size → k ≠ p → (∀ ad, S = some ad → k ≠ ad.block) → w'.heap[k]? = w.heap[k]?
theorem Part.refl (p : Nat) (S : Option Addr) (w : World) : Part p S w w := ⟨rfl, rfl, rfl, Nat.le_refl _, fun _ _ _ _ => rfl⟩
theorem Part.trans {p : Nat} {S : Option Addr} {a b c : World} (h : Part p S a b) (k : Part p S b c) : Part p S a c :=
  ⟨k.os.trans h.os, k.tape.trans h.tape, k.output.trans h.output, Nat.le_trans h.size k.size, fun i hi hp hs => (k.block i (Nat.lt_of_lt_of_le hi h.size) hp hs).trans (h.block i hi hp hs)⟩
theorem Part.of_below {p : Nat} {S : Option Addr} {w w' : World} (h : Below w.heap.size w w') : Part p S w w' := ⟨h.os, h.tape, h.output, h.size, fun k hk _ _ => h.block k hk⟩
theorem Part.of_only {p : Nat} {S : Option Addr} {w w' : World} (h : Only p w w') : Part p S w w' := ⟨h.os, h.tape, h.output, h.size, fun k hk hp _ => h.block k hk hp⟩
theorem Part.of_grown {p : Nat} {S : Option Addr} {n c : Nat} {w w' : World} (h : w.grownBy w' (Value.slice S n c).ownBlock) : Part p S w w' :=
  ⟨h.os, h.tape, h.output, h.size, fun k hk hp hs => h.block k hk (by cases S with
    | none => simp [Value.ownBlock]
    | some ad => have := hs ad rfl; simp [Value.ownBlock]; exact this)⟩
/-- Below B all is kept when p and the row lie from B on. -/
theorem Part.below {p B : Nat} {S : Option Addr} {W w w' : World} (hb : Below B W w) (h : Part p S w w') (hp : B ≤ p) (hS : ∀ ad, S = some ad → B ≤ ad.block) (hB : B ≤ w.heap.size) : Below B W w' :=
  hb.trans ⟨h.os, h.tape, h.output, h.size, fun k hk => h.block k (by omega) (by omega) (fun ad e => by have := hS ad e; omega)⟩
theorem own_lies {w : World} {base : Nat} {S : Option Addr} {n c : Nat} {xs : List Value} (h : w.ownsRow base 55 24 (.slice S n c) n xs) : ∀ ad, S = some ad → base ≤ ad.block ∧ ad.block < w.heap.size := by
  intro ad e; subst e
  exact h.lt ad.block rfl
theorem own_kept {w w' : World} {base : Nat} {v : Value} {n : Nat} {xs : List Value} (h : w.ownsRow base 55 24 v n xs) (hb : Below w.heap.size w w') : w'.ownsRow base 55 24 v n xs := by
  refine h.kept (row := none) ⟨hb.os, hb.tape, hb.output, hb.size, fun k hk _ => hb.block k hk⟩ ?_
  cases hv : v.ownBlock <;> simp
theorem ne_own {w : World} {p : Nat} {S : Option Addr} {n c : Nat} {xs : List Value} (h : w.ownsRow (p + 1) 55 24 (.slice S n c) n xs) : some p ≠ (Value.slice S n c).ownBlock := by
  cases S with
  | none => simp [Value.ownBlock]
  | some ad => have := (own_lies h ad rfl).1; simp [Value.ownBlock]; omega
theorem St.below {w w' : World} {p cl : Nat} {ws : List (List Int)} {S : Option Addr} {sc : Nat} (h : St w p cl ws S sc) (hb : Below w.heap.size w w') : St w' p cl ws S sc := by
  have hp := World.block_lt_of_cell? w _ h.c0
  exact ⟨(hb.cell (p := ⟨p, 0, none⟩) hp).trans h.c0, (hb.cell (p := ⟨p, 1, none⟩) hp).trans h.c1, (hb.frozen (p := ⟨p, 1, none⟩) hp).trans h.f1, own_kept h.own hb, h.wid, h.few⟩
theorem list24 (l : List Int) (h : l.length = 24) : ∃ a0 a1 a2 a3 a4 a5 a6 a7 a8 a9 a10 a11 a12 a13 a14 a15 a16 a17 a18 a19 a20 a21 a22 a23, l = [a0, a1, a2, a3, a4, a5, a6, a7, a8, a9, a10, a11, a12, a13, a14, a15, a16, a17, a18, a19, a20, a21, a22, a23] := by
  obtain _ | ⟨a0, _ | ⟨a1, _ | ⟨a2, _ | ⟨a3, _ | ⟨a4, _ | ⟨a5, _ | ⟨a6, _ | ⟨a7, _ | ⟨a8, _ | ⟨a9, _ | ⟨a10, _ | ⟨a11, _ | ⟨a12, _ | ⟨a13, _ | ⟨a14, _ | ⟨a15, _ | ⟨a16, _ | ⟨a17, _ | ⟨a18, _ | ⟨a19, _ | ⟨a20, _ | ⟨a21, _ | ⟨a22, _ | ⟨a23, _ | ⟨a24, l⟩⟩⟩⟩⟩⟩⟩⟩⟩⟩⟩⟩⟩⟩⟩⟩⟩⟩⟩⟩⟩⟩⟩⟩⟩ := l <;> simp at h
  exact ⟨_, _, _, _, _, _, _, _, _, _, _, _, _, _, _, _, _, _, _, _, _, _, _, _, rfl⟩
/-- The world behind the append: the row is one longer, the field holds it. -/
def Longer (w : World) (p cl : Nat) (ws : List (List Int)) (S : Option Addr) (win : List Int) (wx : World) : Prop :=
  ∃ g2 cap2, wx.cell? ⟨p, 0, none⟩ = some (.int .i64 cl) ∧ wx.cell? ⟨p, 1, none⟩ = some (.slice (some ⟨g2, 0, none⟩) (ws.length + 1) cap2) ∧ wx.frozen? ⟨p, 1, none⟩ = false ∧
    wx.ownsRow (p + 1) 55 24 (.slice (some ⟨g2, 0, none⟩) (ws.length + 1) cap2) (ws.length + 1) (nums (ws.flatten ++ win)) ∧ Part p S w wx
theorem flat24 {ws : List (List Int)} (h : ∀ l ∈ ws, l.length = 24) : ws.flatten.length = ws.length * 24 := by
  induction ws with
  | nil => simp
  | cons a l ih => rw [List.flatten_cons, List.length_append, ih (fun x hx => h x (List.mem_cons_of_mem _ hx)), h a (List.mem_cons_self ..), List.length_cons]; omega
/-- The last three. -/
def last3 {α : Type} (l : List α) : List α := l.drop (l.length - 3)
end Go.Proofs.Ytkfpkgamjpdhaaa.Au
