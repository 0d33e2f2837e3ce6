/- The reference's Auto in memory; its New, its in. Conditions: those that each lemma names. -/
import Derived.Test.YtkfpkgamjpdhaaaFairMem
import Derived.Test.YtkfpkgamjpdhaaaRowR
namespace Go.Proofs.Ytkfpkgamjpdhaaa.Au
open Go.RowKit
set_option linter.unusedVariables false
set_option linter.unusedSimpArgs false
/-- The reference's Auto at block q: N = cl; W = Wv, a row of rows of its own: L. -/
structure RSt (w : World) (q base cl : Nat) (L : List (Value × List Vw)) (Wv : Value) : Prop where
  c0 : w.cell? ⟨q, 0, none⟩ = some (.int .i64 cl)
  c1 : w.cell? ⟨q, 1, none⟩ = some Wv
  f1 : w.frozen? ⟨q, 1, none⟩ = false
  own : w.ownsRow base 31 1 Wv L.length (L.map (·.1))
  row : ∀ x ∈ L, ∃ b off c, x.1 = .slice (some ⟨b, off, none⟩) cl c ∧ base ≤ b ∧ b < w.heap.size ∧ IsViews w (some ⟨b, off, none⟩) cl x.2 ∧ Wv.ownBlock ≠ some b
  okv : ∀ x ∈ L, x.2.all okV = true
  few : L.length ≤ 4
  qb : q < base
/-- The blocks that it leans on. -/
def Foot (q : Nat) (Wv : Value) (L : List (Value × List Vw)) (k : Nat) : Prop := k = q ∨ Wv.ownBlock = some k ∨ ∃ x ∈ L, x.1.ownBlock = some k
theorem RSt.qlt {w : World} {q base cl : Nat} {L : List (Value × List Vw)} {Wv : Value} (h : RSt w q base cl L Wv) : q < w.heap.size := World.block_lt_of_cell? w _ h.c0
theorem RSt.foot {w : World} {q base cl : Nat} {L : List (Value × List Vw)} {Wv : Value} (h : RSt w q base cl L Wv) : ∀ k, Foot q Wv L k → (k = q ∨ base ≤ k) ∧ k < w.heap.size := by
  intro k hk
  rcases hk with rfl | hk | ⟨x, hx, hk⟩
  · exact ⟨.inl rfl, h.qlt⟩
  · have := h.own.lt k hk; exact ⟨.inr this.1, this.2⟩
  · obtain ⟨b, off, c, e, h1, h2, _⟩ := h.row x hx
    rw [e] at hk; simp [Value.ownBlock] at hk; subst hk
    exact ⟨.inr h1, h2⟩
theorem views_of_block {w w' : World} {b off n : Nat} {vs : List Vw} (h : IsViews w (some ⟨b, off, none⟩) n vs) (hz : w.heap.size ≤ w'.heap.size) (hb : w'.heap[b]? = w.heap[b]?) : IsViews w' (some ⟨b, off, none⟩) n vs := by
  obtain ⟨h1, h2⟩ := h
  refine ⟨h1, ?_⟩
  rcases h2 with h2 | ⟨b', off', e, h4, h5⟩
  · exact .inl h2
  · cases e
    exact .inr ⟨b, off, rfl, Nat.lt_of_lt_of_le h4 hz, fun i hi => ⟨(World.cell?_of_block (a := ⟨b, off + i * 3, none⟩) hb).trans (h5 i hi).1, (World.cell?_of_block (a := ⟨b, off + i * 3 + 1, none⟩) hb).trans (h5 i hi).2.1, (World.cell?_of_block (a := ⟨b, off + i * 3 + 2, none⟩) hb).trans (h5 i hi).2.2⟩⟩
theorem RSt.of_blocks {w w' : World} {q base cl : Nat} {L : List (Value × List Vw)} {Wv : Value} (h : RSt w q base cl L Wv) (hz : w.heap.size ≤ w'.heap.size) (hb : ∀ k, Foot q Wv L k → w'.heap[k]? = w.heap[k]?) : RSt w' q base cl L Wv := by
  have hq := hb q (.inl rfl)
  refine ⟨(World.cell?_of_block (a := ⟨q, 0, none⟩) hq).trans h.c0, (World.cell?_of_block (a := ⟨q, 1, none⟩) hq).trans h.c1, (World.frozen?_of_block (a := ⟨q, 1, none⟩) hq).trans h.f1, own_of_block h.own (fun g hg => hb g (.inr (.inl hg))), fun x hx => ?_, h.okv, h.few, h.qb⟩
  obtain ⟨b, off, c, e, h1, h2, h3, h4⟩ := h.row x hx
  exact ⟨b, off, c, e, h1, Nat.lt_of_lt_of_le h2 hz, views_of_block h3 hz (hb b (.inr (.inr ⟨x, hx, by rw [e]; rfl⟩))), h4⟩
theorem RSt.below {w w' : World} {q base cl : Nat} {L : List (Value × List Vw)} {Wv : Value} (h : RSt w q base cl L Wv) (hb : Below w.heap.size w w') : RSt w' q base cl L Wv :=
  h.of_blocks hb.size (fun k hk => hb.block k (h.foot k hk).2)
theorem rnew_ok (cl : Nat) (w : World) (h0 : 1 ≤ cl) (h1 : cl ≤ 8) :
    Calls Try.prog 8 #[.int .i64 cl] w fun e w' => e = .returned (.tuple #[.pointer (some ⟨w.heap.size, 0, none⟩), .int .i64 0]) ∧ (∀ base, w.heap.size < base → RSt w' w.heap.size base cl [] (.slice none 0 0)) ∧ Below w.heap.size w w' := by
  have a1 : decide ((cl : Int) < 1) = false := by simp; omega
  have a2 : decide (8 < (cl : Int)) = false := by simp; omega
  go_enter Try.func8, Try.ntmps8
  go_wp2_with fail
  go_ret2
  refine ⟨rfl, fun base hb => ⟨by go_simp, by go_simp, by go_simp, World.ownsRow_nil _ _ _ _, fun x hx => absurd hx (by simp), fun x hx => absurd hx (by simp), by simp, hb⟩, (Below.refl _ _).alloc (Nat.le_refl _) _⟩
theorem rnew_bad (n : Int) (w : World) (h : n < 1 ∨ 8 < n) :
    Calls Try.prog 8 #[.int .i64 n] w fun e w' => e = .returned (.tuple #[.pointer none, .int .i64 1]) ∧ w = w' := by
  by_cases h1 : n < 1
  · have a1 : decide (n < 1) = true := by simp [h1]
    clear h
    go_enter Try.func8, Try.ntmps8
    go_wp2_with fail
    go_ret2
    exact ⟨rfl, rfl⟩
  · have a1 : decide (n < 1) = false := by simp; omega
    have a2 : decide (8 < n) = true := by simp; omega
    clear h h1
    go_enter Try.func8, Try.ntmps8
    go_wp2_with fail
    go_ret2
    exact ⟨rfl, rfl⟩
theorem in_t (x : Int) (w : World) : Calls Try.prog 17 #[.int .i64 x] w fun e w' => e = .returned (.bool (okN x)) ∧ w = w' := by
  by_cases h0 : 0 ≤ x
  · by_cases h1 : x ≤ 2147483647
    · have hk : okN x = true := by simp [okN, h0, h1]
      have a1 : decide (0 ≤ x) = true := by simp [h0]
      have a2 : decide (x ≤ 2147483647) = true := by simp [h1]
      rw [hk]
      clear hk
      go_enter Try.func17, Try.ntmps17
      go_wp2_with fail
      go_ret
      exact ⟨rfl, rfl⟩
    · have hk : okN x = false := by simp [okN]; omega
      have a1 : decide (0 ≤ x) = true := by simp [h0]
      have a2 : decide (x ≤ 2147483647) = false := by simp; omega
      rw [hk]
      clear hk h1
      go_enter Try.func17, Try.ntmps17
      go_wp2_with fail
      go_ret
      exact ⟨rfl, rfl⟩
  · have hk : okN x = false := by simp [okN]; omega
    have a1 : decide (0 ≤ x) = false := by simp; omega
    rw [hk]
    clear hk h0
    go_enter Try.func17, Try.ntmps17
    go_wp2_with fail
    go_ret
    exact ⟨rfl, rfl⟩
theorem rsee_len (q base cl : Nat) (L : List (Value × List Vw)) (Wv : Value) (A : Option Addr) (n c : Nat) (w : World) (hst : RSt w q base cl L Wv) (hn : n ≠ cl) :
    Calls Try.prog 11 #[.pointer (some ⟨q, 0, none⟩), .slice A n c] w fun e w' => e = .returned (.int .i64 6) ∧ w = w' := by
  have h0 := hst.c0
  clear hst
  have a1 : (n == cl) = false := by simp [hn]
  go_enter Try.func11, Try.ntmps11
  go_wp2_with fail
  go_ret
  exact ⟨rfl, rfl⟩
end Go.Proofs.Ytkfpkgamjpdhaaa.Au
