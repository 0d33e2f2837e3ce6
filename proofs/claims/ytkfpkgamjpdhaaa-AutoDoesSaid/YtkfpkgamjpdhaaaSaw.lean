/- See and Decide told by the views that were seen. Conditions: those that each contract names. -/
import Derived.Test.YtkfpkgamjpdhaaaSee
import Derived.Test.YtkfpkgamjpdhaaaDecD
import Derived.Test.YtkfpkgamjpdhaaaSmall
namespace Go.Proofs.Ytkfpkgamjpdhaaa.Au
open Go.RowKit
set_option linter.unusedVariables false
set_option linter.unusedSimpArgs false
abbrev Vw := Int × Int × Int
def canon (vs : List Vw) : List Int := vs.flatMap (fun v => [v.1, v.2.1, v.2.2])
theorem canon_get (vs : List Vw) : ∀ c, (canon vs).getD (3 * c) 0 = (vs.getD c (0, 0, 0)).1 ∧ (canon vs).getD (3 * c + 1) 0 = (vs.getD c (0, 0, 0)).2.1 ∧ (canon vs).getD (3 * c + 2) 0 = (vs.getD c (0, 0, 0)).2.2 := by
  induction vs with
  | nil => intro c; simp [canon]
  | cons v r ih =>
    intro c
    have e : canon (v :: r) = v.1 :: v.2.1 :: v.2.2 :: canon r := by simp [canon]
    rw [e]
    cases c with
    | zero => simp
    | succ c =>
      have := ih c
      have e1 : 3 * (c + 1) = 3 * c + 1 + 1 + 1 := by omega
      rw [e1]
      simpa using this
def evV (vws : List (List Vw)) (c i : Nat) : Int := ((vws.getD i []).getD c (0, 0, 0)).1
def pgV (vws : List (List Vw)) (c : Nat) : Int := ((vws.getD 2 []).getD c (0, 0, 0)).2.1
def frV (vws : List (List Vw)) (c : Nat) : Int := ((vws.getD 2 []).getD c (0, 0, 0)).2.2
theorem canon_at (vws : List (List Vw)) (i : Nat) : (vws.map canon).getD i [] = canon (vws.getD i []) := by
  simp only [List.getD_eq_getElem?_getD, List.getElem?_map]
  cases vws[i]? <;> simp [canon]
theorem evAt_canon (vws : List (List Vw)) (c i : Nat) : evAt (vws.map canon) c i = evV vws c i := by
  unfold evAt evV; rw [canon_at, (canon_get _ c).1]
theorem pgAt_canon (vws : List (List Vw)) (c : Nat) : pgAt (vws.map canon) c = pgV vws c := by
  unfold pgAt pgV; rw [canon_at, (canon_get _ c).2.1]
theorem frAt_canon (vws : List (List Vw)) (c : Nat) : frAt (vws.map canon) c = frV vws c := by
  unfold frAt frV; rw [canon_at, (canon_get _ c).2.2]
/-- What Decide finds. -/
def decV (vws : List (List Vw)) (n : Nat) : Int × Int × Int := dec (vws.map canon) n
theorem dec_congr {ws ws2 : List (List Int)} (n : Nat) (h : ∀ c, c < n → (∀ i, i < 3 → evAt ws c i = evAt ws2 c i) ∧ pgAt ws c = pgAt ws2 c ∧ frAt ws c = frAt ws2 c) : dec ws n = dec ws2 n := by
  induction n with
  | zero => rfl
  | succ n ih =>
    have ih := ih (fun c hc => h c (by omega))
    obtain ⟨h1, h2, h3⟩ := h n (by omega)
    have hs : sumW ws n 3 = sumW ws2 n 3 := by simp [sumW, h1]
    have hl' : ∀ k, k ≤ 3 → leastW ws n k = leastW ws2 n k := by
      intro k
      induction k with
      | zero => intro _; rfl
      | succ k ihk => intro hk; unfold leastW; rw [ihk (by omega), h1 k (by omega)]
    have hl := hl' 3 (Nat.le_refl _)
    have hr := dec_range (ws := ws2) n
    simp only [dec, stepD]
    rw [ih, hs, hl, h2, h3]
    by_cases hg : (dec ws2 n).1 = -1
    · simp [hg]
    · rw [(h (dec ws2 n).1.toNat (by omega)).2.2]
/-- An Auto of cl classes lies at block p and has seen these views; its row lies from block lo on. -/
def Saw (w : World) (p cl : Nat) (vws : List (List Vw)) (lo : Nat) : Prop :=
  ∃ ws S sc, St w p cl ws S sc ∧ ws.length = vws.length ∧ (∀ i, i < ws.length → WinTo (ws.getD i []) (vws.getD i []) cl) ∧ (∀ ad, S = some ad → lo ≤ ad.block) ∧ (∀ i, i < ws.length → ∀ c, c < cl → okV ((vws.getD i []).getD c (0, 0, 0)) = true)
/-- Of what lies below lo only block p has turned. -/
structure Kept (lo p : Nat) (w w' : World) : Prop where
  os : w'.os = w.os
  tape : w'.tape = w.tape
  output : w'.output = w.output
  size : w.heap.size ≤ w'.heap.size
  block : ∀ k, k < lo → k ≠ p → w'.heap[k]? = w.heap[k]?
theorem Kept.refl (lo p : Nat) (w : World) : Kept lo p w w := ⟨rfl, rfl, rfl, Nat.le_refl _, fun _ _ _ => rfl⟩
theorem Kept.trans {lo p : Nat} {a b c : World} (h : Kept lo p a b) (k : Kept lo p b c) : Kept lo p a c :=
  ⟨k.os.trans h.os, k.tape.trans h.tape, k.output.trans h.output, Nat.le_trans h.size k.size, fun i hi hp => (k.block i hi hp).trans (h.block i hi hp)⟩
theorem Kept.of_below {lo p : Nat} {w w' : World} (h : Below lo w w') : Kept lo p w w' := ⟨h.os, h.tape, h.output, h.size, fun k hk _ => h.block k hk⟩
theorem Kept.of_part {lo p : Nat} {S : Option Addr} {w w' : World} (h : Part p S w w') (hl : lo ≤ w.heap.size) (hS : ∀ ad, S = some ad → lo ≤ ad.block) : Kept lo p w w' :=
  ⟨h.os, h.tape, h.output, h.size, fun k hk hp => h.block k (by omega) hp (fun ad e => by have := hS ad e; omega)⟩
theorem Kept.of_only {lo p : Nat} {w w' : World} (h : Only p w w') (hl : lo ≤ w.heap.size) : Kept lo p w w' := ⟨h.os, h.tape, h.output, h.size, fun k hk hp => h.block k (by omega) hp⟩
/-- Below B all is kept when p lies from B on. -/
theorem Kept.below {lo p B : Nat} {W w w' : World} (hb : Below B W w) (h : Kept lo p w w') (hp : B ≤ p) (hB : B ≤ lo) : Below B W w' :=
  hb.trans ⟨h.os, h.tape, h.output, h.size, fun k hk => h.block k (by omega) (by omega)⟩
theorem Kept.cell {lo p : Nat} {w w' : World} (h : Kept lo p w w') {a : Addr} (hl : a.block < lo) (hp : a.block ≠ p) : w'.cell? a = w.cell? a := World.cell?_of_block (h.block a.block hl hp)
theorem Kept.drew {lo p : Nat} {w w' : World} (h : Kept lo p w w') : Kept lo p w w'.drew := ⟨h.os, h.tape, h.output, h.size, h.block⟩
theorem Saw.below {w w' : World} {p cl : Nat} {vws : List (List Vw)} {lo : Nat} (h : Saw w p cl vws lo) (hb : Below w.heap.size w w') : Saw w' p cl vws lo := by
  obtain ⟨ws, S, sc, h1, h2, h3, h4, h5⟩ := h
  exact ⟨ws, S, sc, h1.below hb, h2, h3, h4, h5⟩
theorem Saw.lt {w : World} {p cl : Nat} {vws : List (List Vw)} {lo : Nat} (h : Saw w p cl vws lo) : p < w.heap.size := by
  obtain ⟨ws, S, sc, h1, _⟩ := h
  exact World.block_lt_of_cell? w _ h1.c0
theorem Saw.few {w : World} {p cl : Nat} {vws : List (List Vw)} {lo : Nat} (h : Saw w p cl vws lo) : vws.length ≤ 3 := by
  obtain ⟨ws, S, sc, h1, h2, _⟩ := h
  rw [← h2]; exact h1.few
theorem Saw.low {w : World} {p cl : Nat} {vws : List (List Vw)} {lo lo' : Nat} (h : Saw w p cl vws lo) (hl : lo' ≤ lo) : Saw w p cl vws lo' := by
  obtain ⟨ws, S, sc, h1, h2, h3, h4, h5⟩ := h
  exact ⟨ws, S, sc, h1, h2, h3, fun ad e => Nat.le_trans hl (h4 ad e), h5⟩
theorem Saw.new {w : World} {p cl : Nat} (h : St w p cl [] none 0) (lo : Nat) : Saw w p cl [] lo :=
  ⟨[], none, 0, h, rfl, fun i hi => absurd hi (by simp), fun ad e => (by cases e), fun i hi => absurd hi (by simp)⟩
theorem getD_last3 {α : Type} (l : List α) (i : Nat) (d : α) : (last3 l).getD i d = l.getD (l.length - 3 + i) d := by
  simp [last3, List.getD_eq_getElem?_getD]
theorem getD_snoc {α : Type} (l : List α) (x : α) (i : Nat) (d : α) : (l ++ [x]).getD i d = if i < l.length then l.getD i d else if i = l.length then x else d := by
  by_cases h : i < l.length
  · rw [if_pos h]; simp only [List.getD_eq_getElem?_getD, List.getElem?_append_left h]
  · by_cases h2 : i = l.length
    · subst h2; simp
    · rw [if_neg h, if_neg h2]
      simp only [List.getD_eq_getElem?_getD]
      rw [List.getElem?_eq_none (by simp; omega)]
      rfl
theorem all_get {vs : List Vw} (h : vs.all okV = true) (c : Nat) (hc : c < vs.length) : okV (vs.getD c (0, 0, 0)) = true := by
  rw [List.all_eq_true] at h
  rw [List.getD_eq_getElem?_getD, List.getElem?_eq_getElem hc]
  exact h _ (List.getElem_mem ..)
/-- See, all well. -/
theorem see_saw (p cl : Nat) (vws : List (List Vw)) (lo : Nat) (A : Option Addr) (c : Nat) (vs : List Vw) (w : World) (hs : Saw w p cl vws lo) (hlo : lo ≤ w.heap.size) (hv : IsViews w A cl vs) (hcl : cl ≤ 8) (hok : vs.all okV = true) :
    Calls Try.prog 9 #[.pointer (some ⟨p, 0, none⟩), .slice A cl c] w fun e w' => e = .returned (.int .i64 0) ∧ Saw w' p cl (last3 (vws ++ [vs])) lo ∧ Kept lo p w w' := by
  obtain ⟨ws, S, sc, h1, h2, h3, h4, h5⟩ := hs
  refine (see_ok p cl ws S sc A cl c vs w h1 hv rfl hcl).mono ?_
  intro e w' h
  rcases h with ⟨_, he, S', sc', win, k1, k2, k3, k4⟩ | ⟨hb, _⟩
  · refine ⟨he, ⟨_, S', sc', k1, ?_, ?_, fun ad e => Nat.le_trans hlo (k4 ad e), ?_⟩, Kept.of_part k3 hlo h4⟩
    · simp [last3, h2]
    · intro i hi
      have hi' : i < (ws ++ [win]).length - ((ws ++ [win]).length - 3) := by simpa [last3] using hi
      simp only [List.length_append, List.length_singleton] at hi'
      rw [getD_last3, getD_last3, getD_snoc, getD_snoc]
      simp only [List.length_append, List.length_singleton, ← h2]
      by_cases e1 : ws.length + 1 - 3 + i < ws.length
      · rw [if_pos e1, if_pos e1]; exact h3 _ e1
      · rw [if_neg e1, if_neg e1, if_pos (by omega), if_pos (by omega)]; exact k2
    · intro i hi c hc
      have hi' : i < (ws ++ [win]).length - ((ws ++ [win]).length - 3) := by simpa [last3] using hi
      simp only [List.length_append, List.length_singleton] at hi'
      rw [getD_last3, getD_snoc]
      simp only [List.length_append, List.length_singleton, ← h2]
      by_cases e1 : ws.length + 1 - 3 + i < ws.length
      · rw [if_pos e1]; exact h5 _ e1 c hc
      · rw [if_neg e1, if_pos (by omega)]; exact all_get hok c (by rw [hv.1]; exact hc)
  · rw [hok] at hb; cases hb
/-- See, a number is out of its range. -/
theorem see_bad (p cl : Nat) (vws : List (List Vw)) (lo : Nat) (A : Option Addr) (c : Nat) (vs : List Vw) (w : World) (hs : Saw w p cl vws lo) (hv : IsViews w A cl vs) (hcl : cl ≤ 8) (hok : vs.all okV = false) :
    Calls Try.prog 9 #[.pointer (some ⟨p, 0, none⟩), .slice A cl c] w fun e w' => e = .returned (.int .i64 1) ∧ Below w.heap.size w w' := by
  obtain ⟨ws, S, sc, h1, h2, h3, h4, h5⟩ := hs
  refine (see_ok p cl ws S sc A cl c vs w h1 hv rfl hcl).mono ?_
  intro e w' h
  rcases h with ⟨hb, _⟩ | ⟨_, he, hb⟩
  · rw [hok] at hb; cases hb
  · exact ⟨he, hb⟩
theorem see_other (p cl : Nat) (vws : List (List Vw)) (lo : Nat) (A : Option Addr) (n c : Nat) (w : World) (hs : Saw w p cl vws lo) (hn : n ≠ cl) :
    Calls Try.prog 9 #[.pointer (some ⟨p, 0, none⟩), .slice A n c] w fun e w' => e = .returned (.int .i64 6) ∧ w = w' := by
  obtain ⟨ws, S, sc, h1, h2, h3, h4, h5⟩ := hs
  exact see_len p cl ws S sc A n c w h1 hn
theorem seen_saw (p cl : Nat) (vws : List (List Vw)) (lo : Nat) (w : World) (hs : Saw w p cl vws lo) :
    Calls Try.prog 12 #[.pointer (some ⟨p, 0, none⟩)] w fun e w' => e = .returned (.int .i64 vws.length) ∧ w = w' := by
  obtain ⟨ws, S, sc, h1, h2, h3, h4, h5⟩ := hs
  have := seen_t p cl ws S sc w h1
  rw [h2] at this
  exact this
theorem decide_less (p cl : Nat) (vws : List (List Vw)) (lo : Nat) (w : World) (hs : Saw w p cl vws lo) (hn : vws.length < 3) :
    Calls Try.prog 13 #[.pointer (some ⟨p, 0, none⟩)] w fun e w' => e = .returned (.tuple #[.int .i64 0, .int .i64 0, .bool false]) ∧ w = w' := by
  obtain ⟨ws, S, sc, h1, h2, h3, h4, h5⟩ := hs
  exact decide_few p cl ws S sc w h1 (by omega)
theorem okV_ev {v : Vw} (h : okV v = true) : 0 ≤ v.1 ∧ v.1 ≤ 2147483647 := by
  unfold okV okN at h; simp at h; omega
theorem dec_decV {ws : List (List Int)} {vws : List (List Vw)} {cl : Nat} (hn : ws.length = 3) (h3 : ∀ i, i < ws.length → WinTo (ws.getD i []) (vws.getD i []) cl) : dec ws cl = decV vws cl := by
  refine dec_congr cl (fun c hc => ⟨fun i hi => ?_, ?_, ?_⟩)
  · rw [evAt_canon]; exact ((h3 i (by omega)).2 c hc).1
  · rw [pgAt_canon]; exact ((h3 2 (by omega)).2 c hc).2.1
  · rw [frAt_canon]; exact ((h3 2 (by omega)).2 c hc).2.2
theorem saw_ev {ws : List (List Int)} {vws : List (List Vw)} {cl : Nat} (hn : ws.length = 3) (h3 : ∀ i, i < ws.length → WinTo (ws.getD i []) (vws.getD i []) cl) (h5 : ∀ i, i < ws.length → ∀ c, c < cl → okV ((vws.getD i []).getD c (0, 0, 0)) = true) :
    ∀ i, i < 3 → ∀ c, c < cl → 0 ≤ evAt ws c i ∧ evAt ws c i ≤ 2147483647 := by
  intro i hi c hc
  unfold evAt
  rw [((h3 i (by omega)).2 c hc).1]
  exact okV_ev (h5 i (by omega) c hc)
theorem decide_yes (p cl : Nat) (vws : List (List Vw)) (lo : Nat) (w : World) (hs : Saw w p cl vws lo) (hlo : lo ≤ w.heap.size) (hcl : cl ≤ 8) (hn : vws.length = 3) (hy : 0 ≤ (decV vws cl).1 ∧ 0 ≤ (decV vws cl).2.1) :
    Calls Try.prog 13 #[.pointer (some ⟨p, 0, none⟩)] w fun e w' => e = .returned (.tuple #[.int .i64 (decV vws cl).1, .int .i64 (decV vws cl).2.1, .bool true]) ∧ (∀ lo', Saw w' p cl [] lo') ∧ Kept lo p w w' := by
  obtain ⟨ws, S, sc, h1, h2, h3, h4, h5⟩ := hs
  refine (decide_t p cl ws S sc w h1 (by omega) hcl (saw_ev (by omega) h3 h5)).mono ?_
  intro e w' h
  rw [dec_decV (by omega) h3] at h
  rcases h with ⟨_, he, k1, k2⟩ | ⟨hno, _⟩
  · exact ⟨he, fun lo' => Saw.new k1 lo', Kept.of_only k2 hlo⟩
  · exact absurd hy hno
theorem decide_no (p cl : Nat) (vws : List (List Vw)) (lo : Nat) (w : World) (hs : Saw w p cl vws lo) (hcl : cl ≤ 8) (hn : vws.length = 3) (hy : ¬ (0 ≤ (decV vws cl).1 ∧ 0 ≤ (decV vws cl).2.1)) :
    Calls Try.prog 13 #[.pointer (some ⟨p, 0, none⟩)] w fun e w' => e = .returned (.tuple #[.int .i64 0, .int .i64 0, .bool false]) ∧ Below w.heap.size w w' := by
  obtain ⟨ws, S, sc, h1, h2, h3, h4, h5⟩ := hs
  refine (decide_t p cl ws S sc w h1 (by omega) hcl (saw_ev (by omega) h3 h5)).mono ?_
  intro e w' h
  rw [dec_decV (by omega) h3] at h
  rcases h with ⟨hyes, _⟩ | ⟨_, he, k1⟩
  · exact absurd hyes hy
  · exact ⟨he, k1⟩
theorem new_saw (cl : Nat) (w : World) (h0 : 1 ≤ cl) (h1 : cl ≤ 8) :
    Calls Try.prog 7 #[.int .i64 cl] w fun e w' => e = .returned (.tuple #[.pointer (some ⟨w.heap.size, 0, none⟩), .int .i64 0]) ∧ (∀ lo, Saw w' w.heap.size cl [] lo) ∧ Below w.heap.size w w' :=
  (new_ok cl w h0 h1).mono fun e w' h => ⟨h.1, fun lo => Saw.new h.2.1 lo, h.2.2⟩
end Go.Proofs.Ytkfpkgamjpdhaaa.Au
