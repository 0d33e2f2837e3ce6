/- AutoFair's plain law: who gives, who gets. Conditions: those that each lemma names. -/
import Derived.Test.YtkfpkgamjpdhaaaSawS
import Derived.Test.YtkfpkgamjpdhaaaQuietPure
namespace Go.Proofs.Ytkfpkgamjpdhaaa.Au
open Go.RowKit
set_option linter.unusedVariables false
set_option linter.unusedSimpArgs false
theorem dec_fair (ws : List (List Int)) : ∀ n, (0 ≤ (dec ws n).1 → sumW ws (dec ws n).1.toNat 3 = 0 ∧ 2 ≤ pgAt ws (dec ws n).1.toNat) ∧ (0 ≤ (dec ws n).2.1 → 0 < leastW ws (dec ws n).2.1.toNat 3) := by
  intro n
  induction n with
  | zero => simp [dec]
  | succ n ih =>
    obtain ⟨h1, h2⟩ := ih
    simp only [dec, stepD]
    split
    · next h => exact ⟨h1, fun _ => by simpa using h.1⟩
    · split
      · next h =>
        refine ⟨fun hx => ?_, h2⟩
        split
        · simpa using h
        · next hn => simp only [if_neg hn] at hx; exact h1 hx
      · exact ⟨h1, h2⟩
theorem fair_dec {vws : List (List Vw)} {n : Nat} {x y : Int} (hok : ∀ i, i < 3 → ∀ c, c < n → okV ((vws.getD i []).getD c (0, 0, 0)) = true) (hx : (decV vws n).1 = x) (hy : (decV vws n).2.1 = y) (h : 0 ≤ x ∧ 0 ≤ y) :
    x < n ∧ y < n ∧ (∀ i, i < 3 → evV vws x.toNat i = 0) ∧ 2 ≤ pgV vws x.toNat ∧ (∀ i, i < 3 → 0 < evV vws y.toNat i) := by
  have hr := dec_range (ws := vws.map canon) n
  have hf := dec_fair (vws.map canon) n
  unfold decV at hx hy
  rw [hx, hy] at hf
  rw [hx, hy] at hr
  obtain ⟨_, r2, _, r4⟩ := hr
  obtain ⟨f1, f2⟩ := hf
  have f1 := f1 h.1
  have f2 := f2 h.2
  have nn : ∀ i, i < 3 → 0 ≤ evV vws x.toNat i := fun i hi => (okV_ev (hok i hi x.toNat (by omega))).1
  refine ⟨r2, r4, ?_, by rw [← pgAt_canon]; exact f1.2, fun i hi => ?_⟩
  · have s := f1.1
    simp only [sumW, evAt_canon] at s
    have n0 := nn 0 (by omega)
    have n1 := nn 1 (by omega)
    have n2 := nn 2 (by omega)
    intro i hi
    match i, hi with
    | 0, _ => omega
    | 1, _ => omega
    | 2, _ => omega
  · have := leastW_le (vws.map canon) y.toNat 3 i hi
    rw [evAt_canon] at this
    omega
/-- Behind a decision: who gives (x), who gets (y). -/
def Fairly (vws : List (List Vw)) (x y : Nat) : Prop := x < 3 ∧ y < 3 ∧ x ≠ y ∧ 2 ≤ ((vws.getD 2 []).getD x (0, 0, 0)).2.1 ∧ ∀ i, i < 3 → ((vws.getD i []).getD x (0, 0, 0)).1 = 0 ∧ 0 < ((vws.getD i []).getD y (0, 0, 0)).1
theorem fair_saw {w : World} {p : Nat} {vws : List (List Vw)} {S : Option Addr} {x y : Int} (hs : SawS w p 3 vws S) (hn : vws.length = 3) (hx : (decV vws 3).1 = x) (hy : (decV vws 3).2.1 = y) (h : 0 ≤ x ∧ 0 ≤ y) :
    ∃ xn yn : Nat, x = xn ∧ y = yn ∧ Fairly vws xn yn := by
  have hok : ∀ i, i < 3 → ∀ c, c < 3 → okV ((vws.getD i []).getD c (0, 0, 0)) = true := fun i hi c hc => hs.ok i (by omega) c hc
  obtain ⟨h1, h2, h3, h4, h5⟩ := fair_dec (vws := vws) (n := 3) hok hx hy h
  refine ⟨x.toNat, y.toNat, by omega, by omega, by omega, by omega, ?_, h4, fun i hi => ⟨h3 i hi, h5 i hi⟩⟩
  intro e
  have a := h3 0 (by omega)
  have b := h5 0 (by omega)
  rw [e] at a
  omega
theorem decide_fair {w : World} {p : Nat} {vws : List (List Vw)} {S : Option Addr} (hs : SawS w p 3 vws S) (hn : vws.length = 3) (h : 0 ≤ (decV vws 3).1 ∧ 0 ≤ (decV vws 3).2.1) :
    ∃ xn yn : Nat, Fairly vws xn yn ∧ Calls Try.prog 13 #[.pointer (some ⟨p, 0, none⟩)] w fun e w' => e = .returned (.tuple #[.int .i64 xn, .int .i64 yn, .bool true]) ∧ SawS w' p 3 [] none ∧ Only p w w' := by
  obtain ⟨xn, yn, hx, hy, hf⟩ := fair_saw hs hn rfl rfl h
  exact ⟨xn, yn, hf, decide_ss_yes p 3 vws S w xn yn hs (by decide) hn hx hy (by rw [← hx, ← hy]; exact h)⟩
theorem decide_unfair {w : World} {p : Nat} {vws : List (List Vw)} {S : Option Addr} (hs : SawS w p 3 vws S) (hn : vws.length = 3) (h : ¬ (0 ≤ (decV vws 3).1 ∧ 0 ≤ (decV vws 3).2.1)) :
    Calls Try.prog 13 #[.pointer (some ⟨p, 0, none⟩)] w fun e w' => e = .returned (.tuple #[.int .i64 0, .int .i64 0, .bool false]) ∧ Below w.heap.size w w' :=
  decide_ss_no p 3 vws S w hs (by decide) hn h
end Go.Proofs.Ytkfpkgamjpdhaaa.Au
