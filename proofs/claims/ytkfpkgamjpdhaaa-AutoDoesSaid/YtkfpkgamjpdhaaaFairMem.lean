/- AutoFair: what lies in memory between its rounds. Conditions: those that each lemma names. -/
import Derived.Test.YtkfpkgamjpdhaaaFairPure
import Derived.Test.YtkfpkgamjpdhaaaTo
import Derived.Test.YtkfpkgamjpdhaaaArgV
namespace Go.Proofs.Ytkfpkgamjpdhaaa.Au
open Go.RowKit
set_option linter.unusedVariables false
set_option linter.unusedSimpArgs false
theorem info31 : (Try.prog.info? 31).map (fun i => (i.size, i.bytes, i.zero.map (fun z => z.cells.size))) = some (1, 24, some 1) := by kernel_rfl
theorem parts31 : ∃ i z, Try.prog.info? 31 = some i ∧ i.zero = some z ∧ i.size = 1 ∧ i.bytes = 24 ∧ z.cells.size = 1 := by
  have h := info31
  cases hq : Try.prog.info? 31 with
  | none => rw [hq] at h; cases h
  | some i =>
    rw [hq] at h
    simp at h
    obtain ⟨h1, h2, h3⟩ := h
    obtain ⟨z, hz, h4⟩ := h3
    exact ⟨i, z, rfl, hz, h1, h2, h4⟩
/-- append(s, r): one row onto a row of rows of the call's own, at a plain region's list. -/
theorem wpList_appL {ops : Array Oper} {rest : List Oper} {o : Oper} {a : Act} {w : World} {Q : Exit → Act → World → Prop} (hgd : o.guard = none) (s x : Operand)
    (ho : o.op = .call { callee := .builtin .append, args := #[s, x], argTypes := #[22, 22] }) (base : Nat) (v : Value) (n : Nat) (xs : List Value) (hs : a.eval s = v) (hown : w.ownsRow base 31 1 v n xs)
    (nb : Nat) (A : Option Addr) (m c : Nat) (hx : a.eval x = .slice (some ⟨nb, 0, none⟩) 1 1) (hb : w.heap[nb]? = some (.cells #[.slice A m c] 31 (0, 0)))
    (hn : n ≤ 1000) (hbase : base ≤ w.heap.size)
    (h : ∀ g cap w', w'.ownsRow base 31 1 (.slice (some ⟨g, 0, none⟩) (n + 1) cap) (n + 1) (xs ++ [.slice A m c]) → w.grownBy w' v.ownBlock → (v.ownBlock = some g ∨ g = w.heap.size) → wpList Try.prog ops Q rest (a.put o.dst (.slice (some ⟨g, 0, none⟩) (n + 1) cap)) w') : wpList Try.prog ops Q (o :: rest) a w := by
  obtain ⟨i, z, hi, hz, h1, h2, h3⟩ := parts31
  refine wpList_append_lies w hgd s x 22 ho base 31 i z 1 24 Try.underlying22 hi hz h1 h2 h3 (by decide) v n xs hs hown ⟨nb, 0, none⟩ 1 1 [.slice A m c] hx rfl ?_ (by intro u hu; simp at hu; subst hu; rfl) (by decide) (by unfold maxLen; omega) (by omega) hbase w.heap.size rfl ?_
  · intro j q hj
    exact World.news_of_block hb j q (by simpa using hj)
  · intro g cap w' ho' hg hat _
    exact h g cap w' ho' hg hat
/-- What lies there: the statement's own row of rows (L), and what the Auto at p has seen (vws). -/
structure Fair (W : World) (p base : Nat) (ov : Value) (L : List (Value × List Vw)) (vws : List (List Vw)) (S : Option Addr) (wr : World) : Prop where
  own : wr.ownsRow base 31 1 ov L.length (L.map (·.1))
  row : ∀ x ∈ L, ∃ A c, x.1 = .slice A 3 c ∧ IsViews W A 3 x.2
  saw : SawS wr p 3 vws S
  apart : ∀ ad, S = some ad → some ad.block ≠ ov.ownBlock
  pb : p < base
  wb : W.heap.size ≤ p
  below : Below W.heap.size W wr
  size : base ≤ wr.heap.size
theorem Fair.oblock {W : World} {p base : Nat} {ov : Value} {L : List (Value × List Vw)} {vws : List (List Vw)} {S : Option Addr} {wr : World} (h : Fair W p base ov L vws S wr) : ∀ g, ov.ownBlock = some g → base ≤ g ∧ g < wr.heap.size := h.own.lt
theorem Fair.start {W : World} {p base : Nat} {wr : World} {vws : List (List Vw)} {S : Option Addr} (hs : SawS wr p 3 vws S) (pb : p < base) (wb : W.heap.size ≤ p) (hb : Below W.heap.size W wr) (hz : base ≤ wr.heap.size) : Fair W p base (.slice none 0 0) [] vws S wr :=
  ⟨World.ownsRow_nil _ _ _ _, fun x hx => absurd hx (by simp), hs, fun ad e => by simp [Value.ownBlock], pb, wb, hb, hz⟩
theorem Fair.under {W : World} {p base : Nat} {ov : Value} {L : List (Value × List Vw)} {vws : List (List Vw)} {S : Option Addr} {wr w' : World} (h : Fair W p base ov L vws S wr) (hb : Below wr.heap.size wr w') : Fair W p base ov L vws S w' :=
  ⟨own_of_block h.own (fun g hg => hb.block g (h.oblock g hg).2), h.row, h.saw.below hb, h.apart, h.pb, h.wb, h.below.trans (hb.mono (by have := h.pb; have := h.wb; have := h.size; omega)), Nat.le_trans h.size hb.size⟩
/-- Behind See. -/
theorem Fair.see {W : World} {p base : Nat} {ov : Value} {L : List (Value × List Vw)} {vws vws' : List (List Vw)} {S S' : Option Addr} {wr w' : World} (h : Fair W p base ov L vws S wr) (hp : Part p S wr w') (hs : SawS w' p 3 vws' S') (hS : ∀ ad, S' = some ad → wr.heap.size ≤ ad.block) : Fair W p base ov L vws' S' w' := by
  have h1 := h.pb
  have h2 := h.wb
  have h3 := h.size
  refine ⟨own_of_block h.own (fun g hg => ?_), h.row, hs, fun ad e => ?_, h.pb, h.wb, ?_, Nat.le_trans h3 hp.size⟩
  · have := h.oblock g hg
    refine hp.block g this.2 (by omega) (fun ad e => ?_)
    have := h.apart ad e
    rw [hg] at this
    intro e2; exact this (by rw [e2])
  · intro e2
    have := h.oblock ad.block e2.symm
    have := hS ad e
    omega
  · exact Part.below h.below hp h.wb (fun ad e => by have := (h.saw.lies ad e).1; omega) (by omega)
/-- Behind Decide that has found. -/
theorem Fair.only {W : World} {p base : Nat} {ov : Value} {L : List (Value × List Vw)} {vws vws' : List (List Vw)} {S : Option Addr} {wr w' : World} (h : Fair W p base ov L vws S wr) (hp : Only p wr w') (hs : SawS w' p 3 vws' none) : Fair W p base ov L vws' none w' := by
  have h1 := h.pb
  have h2 := h.wb
  have h3 := h.size
  refine ⟨own_of_block h.own (fun g hg => ?_), h.row, hs, (fun ad e => by cases e), h.pb, h.wb, Only.below h.below hp h.wb (by omega), Nat.le_trans h3 hp.size⟩
  have := h.oblock g hg
  exact hp.block g this.2 (by omega)
/-- Behind the append onto the statement's own row. -/
theorem Fair.app {W : World} {p base : Nat} {ov : Value} {L : List (Value × List Vw)} {vws : List (List Vw)} {S : Option Addr} {wr w' : World} {A : Option Addr} {c g cap : Nat} {vs : List Vw} (h : Fair W p base ov L vws S wr) (hg : wr.grownBy w' ov.ownBlock) (hat : ov.ownBlock = some g ∨ g = wr.heap.size)
    (ho : w'.ownsRow base 31 1 (.slice (some ⟨g, 0, none⟩) (L.length + 1) cap) (L.length + 1) (L.map (·.1) ++ [.slice A 3 c])) (hv : IsViews W A 3 vs) : Fair W p base (.slice (some ⟨g, 0, none⟩) (L.length + 1) cap) (L ++ [(.slice A 3 c, vs)]) vws S w' := by
  have h1 := h.pb
  have h2 := h.wb
  have h3 := h.size
  refine ⟨by simpa using ho, ?_, h.saw.of_blocks (hg.block p h.saw.lt ?_) (fun ad e => hg.block _ (h.saw.lies ad e).2 (h.apart ad e)), fun ad e => ?_, h.pb, h.wb, h.below.grown hg (by omega) (fun j hj => by have := (h.oblock j hj).1; omega), Nat.le_trans h3 hg.size⟩
  · intro x hx
    rcases List.mem_append.1 hx with hx | hx
    · exact h.row x hx
    · simp at hx; subst hx; exact ⟨A, c, rfl, hv⟩
  · intro e
    have := (h.oblock p e.symm).1
    omega
  · have e1 := h.apart ad e
    have e2 := (h.saw.lies ad e).2
    intro e3
    simp [Value.ownBlock] at e3
    rcases hat with hat | hat
    · exact e1 (by rw [hat, e3])
    · omega
/-- Row j of the statement's own, read. -/
theorem Fair.at {W : World} {p base g cap n : Nat} {L : List (Value × List Vw)} {vws : List (List Vw)} {S : Option Addr} {wr : World} (h : Fair W p base (.slice (some ⟨g, 0, none⟩) n cap) L vws S wr) (j : Nat) (hj : j < L.length) :
    ∃ b off c, wr.cell? ⟨g, j, none⟩ = some (.slice (some ⟨b, off, none⟩) 3 c) ∧ ∀ i, i < 3 → wr.cell? ⟨b, off + i * 3, none⟩ = some (.int .i64 (((L.map (·.2)).getD j []).getD i (0, 0, 0)).1) ∧ wr.cell? ⟨b, off + i * 3 + 1, none⟩ = some (.int .i64 (((L.map (·.2)).getD j []).getD i (0, 0, 0)).2.1) := by
  have hm : L[j] ∈ L := List.getElem_mem ..
  obtain ⟨A, c, e, hv⟩ := h.row _ hm
  rcases hv.2 with h0 | ⟨b, off, rfl, hb, hc⟩
  · omega
  refine ⟨b, off, c, ?_, fun i hi => ?_⟩
  · have hn : n = L.length := by
      rcases h.own.2 with ⟨h', _⟩ | ⟨_, _, _, h', _⟩
      · simp at h'
      · simp only [Value.slice.injEq] at h'; exact h'.2.1
    subst hn
    rw [h.own.cellAt j (by omega)]
    simp [hj, e]
  · have e2 : (L.map (·.2)).getD j [] = L[j].2 := by simp [List.getD_eq_getElem?_getD, hj]
    rw [e2]
    have := hc i hi
    exact ⟨(h.below.cell (p := ⟨b, off + i * 3, none⟩) hb).trans this.1, (h.below.cell (p := ⟨b, off + i * 3 + 1, none⟩) hb).trans this.2.1⟩
theorem last3_last3 {α : Type} (l : List α) (x : α) : last3 (last3 l ++ [x]) = last3 (l ++ [x]) := by
  unfold last3
  simp only [List.length_append, List.length_drop, List.length_singleton]
  by_cases h : l.length ≤ 3
  · have e : l.length - 3 = 0 := by omega
    rw [e]; simp
  · have e : l.length - (l.length - 3) + 1 - 3 = 1 := by omega
    rw [e, List.drop_append_of_le_length (by simp; omega), List.drop_drop, List.drop_append_of_le_length (by omega)]
    congr 2; omega
end Go.Proofs.Ytkfpkgamjpdhaaa.Au
