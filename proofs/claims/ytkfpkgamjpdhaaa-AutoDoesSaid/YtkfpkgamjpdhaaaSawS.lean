/- See and Decide told by the views that were seen, the row's block named. Conditions: those that each contract names. -/
import Derived.Test.YtkfpkgamjpdhaaaSaw
namespace Go.Proofs.Ytkfpkgamjpdhaaa.Au
open Go.RowKit
set_option linter.unusedVariables false
set_option linter.unusedSimpArgs false
/-- An Auto of cl classes lies at block p and has seen these views; its row lies at S. -/
def SawS (w : World) (p cl : Nat) (vws : List (List Vw)) (S : Option Addr) : Prop :=
  ∃ ws sc, St w p cl ws S sc ∧ ws.length = vws.length ∧ (∀ i, i < ws.length → WinTo (ws.getD i []) (vws.getD i []) cl) ∧ (∀ i, i < ws.length → ∀ c, c < cl → okV ((vws.getD i []).getD c (0, 0, 0)) = true)
theorem SawS.lt {w : World} {p cl : Nat} {vws : List (List Vw)} {S : Option Addr} (h : SawS w p cl vws S) : p < w.heap.size := by
  obtain ⟨ws, sc, h1, _⟩ := h
  exact World.block_lt_of_cell? w _ h1.c0
theorem SawS.lies {w : World} {p cl : Nat} {vws : List (List Vw)} {S : Option Addr} (h : SawS w p cl vws S) : ∀ ad, S = some ad → p < ad.block ∧ ad.block < w.heap.size := by
  obtain ⟨ws, sc, h1, _⟩ := h
  exact own_lies h1.own
theorem own_of_block {w w' : World} {base : Nat} {e : TypeId} {size : Nat} {v : Value} {n : Nat} {xs : List Value} (h : w.ownsRow base e size v n xs) (hb : ∀ g, v.ownBlock = some g → w'.heap[g]? = w.heap[g]?) : w'.ownsRow base e size v n xs := by
  refine ⟨h.1, ?_⟩
  rcases h.2 with h' | ⟨g', cap', cur, h', h3, h4, h5⟩
  · exact .inl h'
  · exact .inr ⟨g', cap', cur, h', h3, (hb g' (by rw [h']; rfl)).trans h4, h5⟩
theorem SawS.of_blocks {w w' : World} {p cl : Nat} {vws : List (List Vw)} {S : Option Addr} (h : SawS w p cl vws S) (hp : w'.heap[p]? = w.heap[p]?) (hS : ∀ ad, S = some ad → w'.heap[ad.block]? = w.heap[ad.block]?) : SawS w' p cl vws S := by
  obtain ⟨ws, sc, h1, h2, h3, h5⟩ := h
  refine ⟨ws, sc, ⟨(World.cell?_of_block (a := ⟨p, 0, none⟩) hp).trans h1.c0, (World.cell?_of_block (a := ⟨p, 1, none⟩) hp).trans h1.c1, (World.frozen?_of_block (a := ⟨p, 1, none⟩) hp).trans h1.f1, ?_, h1.wid, h1.few⟩, h2, h3, h5⟩
  refine own_of_block h1.own (fun g hg => ?_)
  cases S with
  | none => simp [Value.ownBlock] at hg
  | some ad => simp [Value.ownBlock] at hg; subst hg; exact hS ad rfl
theorem SawS.below {w w' : World} {p cl : Nat} {vws : List (List Vw)} {S : Option Addr} (h : SawS w p cl vws S) (hb : Below w.heap.size w w') : SawS w' p cl vws S :=
  h.of_blocks (hb.block p h.lt) (fun ad e => hb.block _ (h.lies ad e).2)
theorem SawS.few {w : World} {p cl : Nat} {vws : List (List Vw)} {S : Option Addr} (h : SawS w p cl vws S) : vws.length ≤ 3 := by
  obtain ⟨ws, sc, h1, h2, _⟩ := h
  rw [← h2]; exact h1.few
theorem SawS.new {w : World} {p cl : Nat} (h : St w p cl [] none 0) : SawS w p cl [] none :=
  ⟨[], 0, h, rfl, fun i hi => absurd hi (by simp), fun i hi => absurd hi (by simp)⟩
theorem SawS.ok {w : World} {p cl : Nat} {vws : List (List Vw)} {S : Option Addr} (h : SawS w p cl vws S) : ∀ i, i < vws.length → ∀ c, c < cl → okV ((vws.getD i []).getD c (0, 0, 0)) = true := by
  obtain ⟨ws, sc, h1, h2, _, h5⟩ := h
  rw [← h2]; exact h5
theorem see_ss (p cl : Nat) (vws : List (List Vw)) (S : Option Addr) (A : Option Addr) (c : Nat) (vs : List Vw) (w : World) (hs : SawS w p cl vws S) (hv : IsViews w A cl vs) (hcl : cl ≤ 8) (hok : vs.all okV = true) :
    Calls Try.prog 9 #[.pointer (some ⟨p, 0, none⟩), .slice A cl c] w fun e w' => e = .returned (.int .i64 0) ∧ (∃ S', SawS w' p cl (last3 (vws ++ [vs])) S' ∧ ∀ ad, S' = some ad → w.heap.size ≤ ad.block) ∧ Part p S w w' := by
  obtain ⟨ws, sc, h1, h2, h3, h5⟩ := hs
  refine (see_ok p cl ws S sc A cl c vs w h1 hv rfl hcl).mono ?_
  intro e w' h
  rcases h with ⟨_, he, S', sc', win, k1, k2, k3, k4⟩ | ⟨hb, _⟩
  · refine ⟨he, ⟨S', ⟨_, sc', k1, ?_, ?_, ?_⟩, k4⟩, k3⟩
    · simp [last3, h2]
    · intro i hi
      have hi' : i < (ws ++ [win]).length - ((ws ++ [win]).length - 3) := by simpa [last3] using hi
      simp only [List.length_append, List.length_singleton] at hi'
      rw [getD_last3, getD_last3, getD_snoc, getD_snoc]
      simp only [List.length_append, List.length_singleton, ← h2]
      by_cases e1 : ws.length + 1 - 3 + i < ws.length
      · rw [if_pos e1, if_pos e1]; exact h3 _ e1
      · rw [if_neg e1, if_neg e1, if_pos (by omega), if_pos (by omega)]; exact k2
    · intro i hi c hc
      have hi' : i < (ws ++ [win]).length - ((ws ++ [win]).length - 3) := by simpa [last3] using hi
      simp only [List.length_append, List.length_singleton] at hi'
      rw [getD_last3, getD_snoc]
      simp only [List.length_append, List.length_singleton, ← h2]
      by_cases e1 : ws.length + 1 - 3 + i < ws.length
      · rw [if_pos e1]; exact h5 _ e1 c hc
      · rw [if_neg e1, if_pos (by omega)]; exact all_get hok c (by rw [hv.1]; exact hc)
  · rw [hok] at hb; cases hb
theorem see_ss_bad (p cl : Nat) (vws : List (List Vw)) (S : Option Addr) (A : Option Addr) (c : Nat) (vs : List Vw) (w : World) (hs : SawS w p cl vws S) (hv : IsViews w A cl vs) (hcl : cl ≤ 8) (hok : vs.all okV = false) :
    Calls Try.prog 9 #[.pointer (some ⟨p, 0, none⟩), .slice A cl c] w fun e w' => e = .returned (.int .i64 1) ∧ Below w.heap.size w w' := by
  obtain ⟨ws, sc, h1, h2, h3, h5⟩ := hs
  refine (see_ok p cl ws S sc A cl c vs w h1 hv rfl hcl).mono ?_
  intro e w' h
  rcases h with ⟨hb, _⟩ | ⟨_, he, hb⟩
  · rw [hok] at hb; cases hb
  · exact ⟨he, hb⟩
theorem see_ss_other (p cl : Nat) (vws : List (List Vw)) (S : Option Addr) (A : Option Addr) (n c : Nat) (w : World) (hs : SawS w p cl vws S) (hn : n ≠ cl) :
    Calls Try.prog 9 #[.pointer (some ⟨p, 0, none⟩), .slice A n c] w fun e w' => e = .returned (.int .i64 6) ∧ w = w' := by
  obtain ⟨ws, sc, h1, h2, h3, h5⟩ := hs
  exact see_len p cl ws S sc A n c w h1 hn
theorem seen_ss (p cl : Nat) (vws : List (List Vw)) (S : Option Addr) (w : World) (hs : SawS w p cl vws S) :
    Calls Try.prog 12 #[.pointer (some ⟨p, 0, none⟩)] w fun e w' => e = .returned (.int .i64 vws.length) ∧ w = w' := by
  obtain ⟨ws, sc, h1, h2, h3, h5⟩ := hs
  have := seen_t p cl ws S sc w h1
  rw [h2] at this
  exact this
theorem decide_ss_less (p cl : Nat) (vws : List (List Vw)) (S : Option Addr) (w : World) (hs : SawS w p cl vws S) (hn : vws.length < 3) :
    Calls Try.prog 13 #[.pointer (some ⟨p, 0, none⟩)] w fun e w' => e = .returned (.tuple #[.int .i64 0, .int .i64 0, .bool false]) ∧ w = w' := by
  obtain ⟨ws, sc, h1, h2, h3, h5⟩ := hs
  exact decide_few p cl ws S sc w h1 (by omega)
theorem decide_ss_yes (p cl : Nat) (vws : List (List Vw)) (S : Option Addr) (w : World) (x y : Int) (hs : SawS w p cl vws S) (hcl : cl ≤ 8) (hn : vws.length = 3) (hx : (decV vws cl).1 = x) (hy : (decV vws cl).2.1 = y) (h : 0 ≤ x ∧ 0 ≤ y) :
    Calls Try.prog 13 #[.pointer (some ⟨p, 0, none⟩)] w fun e w' => e = .returned (.tuple #[.int .i64 x, .int .i64 y, .bool true]) ∧ SawS w' p cl [] none ∧ Only p w w' := by
  obtain ⟨ws, sc, h1, h2, h3, h5⟩ := hs
  refine (decide_t p cl ws S sc w h1 (by omega) hcl (saw_ev (by omega) h3 h5)).mono ?_
  intro e w' h'
  rw [dec_decV (by omega) h3, hx, hy] at h'
  rcases h' with ⟨_, he, k1, k2⟩ | ⟨hno, _⟩
  · exact ⟨he, SawS.new k1, k2⟩
  · exact absurd h hno
theorem decide_ss_no (p cl : Nat) (vws : List (List Vw)) (S : Option Addr) (w : World) (hs : SawS w p cl vws S) (hcl : cl ≤ 8) (hn : vws.length = 3) (hy : ¬ (0 ≤ (decV vws cl).1 ∧ 0 ≤ (decV vws cl).2.1)) :
    Calls Try.prog 13 #[.pointer (some ⟨p, 0, none⟩)] w fun e w' => e = .returned (.tuple #[.int .i64 0, .int .i64 0, .bool false]) ∧ Below w.heap.size w w' := by
  obtain ⟨ws, sc, h1, h2, h3, h5⟩ := hs
  refine (decide_t p cl ws S sc w h1 (by omega) hcl (saw_ev (by omega) h3 h5)).mono ?_
  intro e w' h
  rw [dec_decV (by omega) h3] at h
  rcases h with ⟨hyes, _⟩ | ⟨_, he, k1⟩
  · exact absurd hyes hy
  · exact ⟨he, k1⟩
end Go.Proofs.Ytkfpkgamjpdhaaa.Au
