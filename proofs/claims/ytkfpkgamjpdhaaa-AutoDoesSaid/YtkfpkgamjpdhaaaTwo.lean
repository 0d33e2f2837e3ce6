/- AutoDoes: what lies in memory between its rounds: the program's Auto and the reference's. Conditions: those that each lemma names. -/
import Derived.Test.YtkfpkgamjpdhaaaRDec
namespace Go.Proofs.Ytkfpkgamjpdhaaa.Au
open Go.RowKit
set_option linter.unusedVariables false
set_option linter.unusedSimpArgs false
/-- A row of bools, read. -/
def IsBools (w : World) (A : Option Addr) (n : Nat) : Prop :=
  n = 0 ∨ ∃ b off, A = some ⟨b, off, none⟩ ∧ b < w.heap.size ∧ ∀ i, i < n → ∃ p : Bool, w.cell? ⟨b, off + i, none⟩ = some (.bool p)
theorem RSt.form {w : World} {q base cl : Nat} {L : List (Value × List Vw)} {Wv : Value} (h : RSt w q base cl L Wv) : ∃ A cap, Wv = .slice A L.length cap := by
  rcases h.own.2 with ⟨e, h0⟩ | ⟨g, cap, cur, e, _⟩
  · exact ⟨none, 0, by rw [e, h0]⟩
  · exact ⟨_, _, e⟩
structure Two (W : World) (p q base cl : Nat) (vws : List (List Vw)) (S : Option Addr) (L : List (Value × List Vw)) (Wv : Value) (wr : World) : Prop where
  saw : SawS wr p cl vws S
  ref : RSt wr q base cl L Wv
  apart : ∀ ad, S = some ad → ¬ Foot q Wv L ad.block
  sb : ∀ ad, S = some ad → base ≤ ad.block
  pq : p < q
  wb : W.heap.size ≤ p
  below : Below W.heap.size W wr
  size : base ≤ wr.heap.size
theorem Two.pfoot {W : World} {p q base cl : Nat} {vws : List (List Vw)} {S : Option Addr} {L : List (Value × List Vw)} {Wv : Value} {wr : World} (h : Two W p q base cl vws S L Wv wr) : ¬ Foot q Wv L p := fun hp => by
  have h1 := h.ref.foot p hp
  have h2 := h.pq
  have h3 := h.ref.qb
  omega
theorem Two.under {W : World} {p q base cl : Nat} {vws : List (List Vw)} {S : Option Addr} {L : List (Value × List Vw)} {Wv : Value} {wr w' : World} (h : Two W p q base cl vws S L Wv wr) (hb : Below wr.heap.size wr w') : Two W p q base cl vws S L Wv w' :=
  ⟨h.saw.below hb, h.ref.below hb, h.apart, h.sb, h.pq, h.wb, h.below.trans (hb.mono (by have := h.wb; have := h.saw.lt; omega)), Nat.le_trans h.size hb.size⟩
/-- Behind the program's See. -/
theorem Two.see {W : World} {p q base cl : Nat} {vws vws' : List (List Vw)} {S S' : Option Addr} {L : List (Value × List Vw)} {Wv : Value} {wr w' : World} (h : Two W p q base cl vws S L Wv wr) (hp : Part p S wr w') (hs : SawS w' p cl vws' S') (hS : ∀ ad, S' = some ad → wr.heap.size ≤ ad.block) : Two W p q base cl vws' S' L Wv w' := by
  have h1 := h.pq
  have h2 := h.wb
  have h3 := h.size
  have h4 := h.ref.qb
  refine ⟨hs, h.ref.of_blocks hp.size (fun k hk => hp.block k (h.ref.foot k hk).2 (fun e => h.pfoot (e ▸ hk)) (fun ad e e2 => h.apart ad e (e2 ▸ hk))), fun ad e hf => ?_, fun ad e => Nat.le_trans h3 (hS ad e), h1, h2, ?_, Nat.le_trans h3 hp.size⟩
  · have := (h.ref.foot _ hf).2
    have := hS ad e
    omega
  · exact Part.below h.below hp h2 (fun ad e => by have := h.sb ad e; omega) (by have := h.saw.lt; omega)
/-- Behind the reference's See. -/
theorem Two.rsee {W : World} {p q base cl : Nat} {vws : List (List Vw)} {S : Option Addr} {L L' : List (Value × List Vw)} {Wv Wv' : Value} {wr w' : World} (h : Two W p q base cl vws S L Wv wr) (hp : RPart q Wv wr w') (hr : RSt w' q base cl L' Wv') (hF : ∀ k, Foot q Wv' L' k → Foot q Wv L k ∨ wr.heap.size ≤ k) : Two W p q base cl vws S L' Wv' w' := by
  have h1 := h.pq
  have h2 := h.wb
  have h3 := h.size
  have h4 := h.ref.qb
  have hpl := h.saw.lt
  refine ⟨h.saw.of_blocks (hp.block p hpl (by omega) (fun e => h.pfoot (.inr (.inl e)))) (fun ad e => hp.block _ (h.saw.lies ad e).2 (fun e2 => h.apart ad e (.inl e2)) (fun e2 => h.apart ad e (.inr (.inl e2)))), hr, fun ad e hf => ?_, h.sb, h1, h2, ?_, Nat.le_trans h3 hp.size⟩
  · rcases hF _ hf with hf | hf
    · exact h.apart ad e hf
    · have := (h.saw.lies ad e).2; omega
  · exact h.below.trans ⟨hp.os, hp.tape, hp.output, hp.size, fun k hk => hp.block k (by omega) (by omega) (fun e => by have := (h.ref.foot k (.inr (.inl e))).1; omega)⟩
/-- Behind the program's Decide that has found. -/
theorem Two.only {W : World} {p q base cl : Nat} {vws vws' : List (List Vw)} {S : Option Addr} {L : List (Value × List Vw)} {Wv : Value} {wr w' : World} (h : Two W p q base cl vws S L Wv wr) (hp : Only p wr w') (hs : SawS w' p cl vws' none) : Two W p q base cl vws' none L Wv w' :=
  h.see (Part.of_only hp) hs (fun ad e => by cases e)
theorem Two.ronly {W : World} {p q base cl : Nat} {vws : List (List Vw)} {S : Option Addr} {L L' : List (Value × List Vw)} {Wv : Value} {wr w' : World} (h : Two W p q base cl vws S L Wv wr) (hp : Only q wr w') (hr : RSt w' q base cl [] (.slice none 0 0)) : Two W p q base cl vws S [] (.slice none 0 0) w' :=
  h.rsee (RPart.of_only hp) hr (fun k hk => by
    rcases hk with rfl | hk | ⟨x, hx, _⟩
    · exact .inl (.inl rfl)
    · simp [Value.ownBlock] at hk
    · simp at hx)
theorem rsee_ok (q base cl : Nat) (L : List (Value × List Vw)) (Wv : Value) (A : Option Addr) (c : Nat) (vs : List Vw) (w : World) (hst : RSt w q base cl L Wv) (hL : L.length ≤ 3) (hbase : base ≤ w.heap.size) (hv : IsViews w A cl vs) (hcl0 : 0 < cl) (hcl : cl ≤ 8) (hok : vs.all okV = true) :
    Calls Try.prog 11 #[.pointer (some ⟨q, 0, none⟩), .slice A cl c] w fun e w' => e = .returned (.int .i64 0) ∧ ∃ L' Wv', RSt w' q base cl L' Wv' ∧ L'.map (·.2) = last3 (L.map (·.2) ++ [vs]) ∧ L'.length ≤ 3 ∧ RPart q Wv w w' ∧ ∀ k, Foot q Wv' L' k → Foot q Wv L k ∨ w.heap.size ≤ k :=
  (rsee_t q base cl L Wv A c vs w hst hL hbase hv hcl0 hcl).mono fun e w' h => by
    rcases h with ⟨_, h⟩ | ⟨h, _⟩
    · exact h
    · rw [hok] at h; cases h
theorem rsee_bad (q base cl : Nat) (L : List (Value × List Vw)) (Wv : Value) (A : Option Addr) (c : Nat) (vs : List Vw) (w : World) (hst : RSt w q base cl L Wv) (hL : L.length ≤ 3) (hbase : base ≤ w.heap.size) (hv : IsViews w A cl vs) (hcl0 : 0 < cl) (hcl : cl ≤ 8) (hok : vs.all okV = false) :
    Calls Try.prog 11 #[.pointer (some ⟨q, 0, none⟩), .slice A cl c] w fun e w' => e = .returned (.int .i64 1) ∧ w = w' :=
  (rsee_t q base cl L Wv A c vs w hst hL hbase hv hcl0 hcl).mono fun e w' h => by
    rcases h with ⟨h, _⟩ | ⟨_, h⟩
    · rw [hok] at h; cases h
    · exact h
theorem seen_m (p cl m : Nat) (vws : List (List Vw)) (S : Option Addr) (w : World) (hs : SawS w p cl vws S) (hm : vws.length = m) :
    Calls Try.prog 12 #[.pointer (some ⟨p, 0, none⟩)] w fun e w' => e = .returned (.int .i64 m) ∧ w = w' := by
  subst hm; exact seen_ss p cl vws S w hs
/-- Both decide alike. -/
theorem decide_both {w : World} {p q base cl : Nat} {vws : List (List Vw)} {S : Option Addr} {L : List (Value × List Vw)} {Wv : Value} {W : World} (h : Two W p q base cl vws S L Wv w) (hcl : cl ≤ 8) (hL : L.length ≤ 3) (hm : L.map (·.2) = vws) :
    ∃ (x y : Int) (ok : Bool), Calls Try.prog 13 #[.pointer (some ⟨p, 0, none⟩)] w fun e w' => e = .returned (.tuple #[.int .i64 x, .int .i64 y, .bool ok]) ∧ ∃ vws' S', Two W p q base cl vws' S' L Wv w' ∧
      ∀ w2, Two W p q base cl vws' S' L Wv w2 → Calls Try.prog 14 #[.pointer (some ⟨q, 0, none⟩)] w2 fun e w' => e = .returned (.tuple #[.int .i64 x, .int .i64 y, .bool ok]) ∧ ∃ L' Wv', Two W p q base cl vws' S' L' Wv' w' ∧ L'.map (·.2) = vws' ∧ L'.length ≤ 3 := by
  by_cases h3 : L.length < 3
  · refine ⟨0, 0, false, (decide_ss_less p cl vws S w h.saw (by rw [← hm]; simpa using h3)).mono fun e w' he => ⟨he.1, vws, S, he.2 ▸ h, fun w2 h2 => ?_⟩⟩
    exact (rdecide_few q base cl L Wv w2 h2.ref h3).mono fun e w' he => ⟨he.1, L, Wv, he.2 ▸ h2, hm, hL⟩
  · have hl3 : L.length = 3 := by omega
    have hv3 : vws.length = 3 := by rw [← hm]; simpa using hl3
    by_cases hxy : 0 ≤ (decV vws cl).1 ∧ 0 ≤ (decV vws cl).2.1
    · refine ⟨(decV vws cl).1, (decV vws cl).2.1, true, (decide_ss_yes p cl vws S w _ _ h.saw hcl hv3 rfl rfl hxy).mono fun e w' he => ⟨he.1, [], none, h.only he.2.2 he.2.1, fun w2 h2 => ?_⟩⟩
      refine (rdecide_t q base cl L Wv w2 h2.ref hl3 hcl).mono fun e w' he => ?_
      rw [hm] at he
      rcases he with ⟨_, he, k1, k2⟩ | ⟨hno, _⟩
      · exact ⟨he, [], _, h2.ronly (L' := []) k2 k1, rfl, by simp⟩
      · exact absurd hxy hno
    · refine ⟨0, 0, false, (decide_ss_no p cl vws S w h.saw hcl hv3 hxy).mono fun e w' he => ⟨he.1, vws, S, h.under he.2, fun w2 h2 => ?_⟩⟩
      refine (rdecide_t q base cl L Wv w2 h2.ref hl3 hcl).mono fun e w' he => ?_
      rw [hm] at he
      rcases he with ⟨hyes, _⟩ | ⟨_, he, k1⟩
      · exact absurd hyes hxy
      · exact ⟨he, L, Wv, h2.under k1, hm, hL⟩
theorem SawS.drewN {w : World} {p cl : Nat} {vws : List (List Vw)} {S : Option Addr} (h : SawS w p cl vws S) (m : Nat) : SawS (w.drewN m) p cl vws S := h.below (Below.drewN' (Below.refl _ _) m)
theorem Two.drewN {W : World} {p q base cl : Nat} {vws : List (List Vw)} {S : Option Addr} {L : List (Value × List Vw)} {Wv : Value} {wr : World} (h : Two W p q base cl vws S L Wv wr) (m : Nat) : Two W p q base cl vws S L Wv (wr.drewN m) := h.under (Below.drewN' (Below.refl _ _) m)
end Go.Proofs.Ytkfpkgamjpdhaaa.Au
