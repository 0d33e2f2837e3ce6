/- Rows of views that a call owns: appended to, stored into, read. Conditions: those that each lemma names. -/
import Derived.Test.YtkfpkgamjpdhaaaSaw
namespace Go.Proofs.Ytkfpkgamjpdhaaa.Au
open Go.RowKit
set_option linter.unusedVariables false
set_option linter.unusedSimpArgs false
theorem info48 : (Try.prog.info? 48).map (fun i => (i.size, i.bytes, i.zero.map (fun z => z.cells.size))) = some (3, 24, some 3) := by kernel_rfl
theorem parts48 : ∃ i z, Try.prog.info? 48 = some i ∧ i.zero = some z ∧ i.size = 3 ∧ i.bytes = 24 ∧ z.cells.size = 3 := by
  have h := info48
  cases hq : Try.prog.info? 48 with
  | none => rw [hq] at h; cases h
  | some i =>
    rw [hq] at h
    simp at h
    obtain ⟨h1, h2, h3⟩ := h
    obtain ⟨z, hz, h4⟩ := h3
    exact ⟨i, z, rfl, hz, h1, h2, h4⟩
theorem canon_append (a b : List Vw) : canon (a ++ b) = canon a ++ canon b := by simp [canon]
theorem canon_len (vs : List Vw) : (canon vs).length = vs.length * 3 := by
  induction vs with
  | nil => rfl
  | cons v r ih =>
    have e : canon (v :: r) = v.1 :: v.2.1 :: v.2.2 :: canon r := by simp [canon]
    rw [e]; simp only [List.length_cons, ih]; omega
theorem canon_set (vs : List Vw) (x y z : Int) : ∀ c, c < vs.length → vs.getD c (0, 0, 0) = (x, y, z) → ∀ u, canon (vs.set c (u, y, z)) = (canon vs).set (c * 3) u := by
  induction vs with
  | nil => intro c hc; simp at hc
  | cons v r ih =>
    intro c hc hv u
    have e : ∀ (v : Vw) r, canon (v :: r) = v.1 :: v.2.1 :: v.2.2 :: canon r := by intro v r; simp [canon]
    cases c with
    | zero =>
      simp at hv
      rw [List.set_cons_zero, e, e, hv]
      simp
    | succ c =>
      rw [List.set_cons_succ, e, e, ih c (by simpa using hc) (by simpa using hv) u, Nat.add_mul]
      simp
/-- The value v is a row of these views that the call owns. -/
def OwnV (w : World) (base : Nat) (v : Value) (vs : List Vw) : Prop := w.ownsRow base 48 3 v vs.length (nums (canon vs))
theorem OwnV.nil (w : World) (base : Nat) : OwnV w base (.slice none 0 0) [] := World.ownsRow_nil _ _ _ _
theorem OwnV.kept {w w' : World} {base : Nat} {v : Value} {vs : List Vw} (h : OwnV w base v vs) (hb : Below w.heap.size w w') : OwnV w' base v vs := by
  refine World.ownsRow.kept h (row := none) ⟨hb.os, hb.tape, hb.output, hb.size, fun k hk _ => hb.block k hk⟩ ?_
  cases hv : v.ownBlock <;> simp
theorem OwnV.drew {w : World} {base : Nat} {v : Value} {vs : List Vw} (h : OwnV w base v vs) : OwnV w.drew base v vs := h
theorem OwnV.form {w : World} {base : Nat} {v : Value} {vs : List Vw} (h : OwnV w base v vs) (hn : 0 < vs.length) : ∃ g cap, v = .slice (some ⟨g, 0, none⟩) vs.length cap ∧ base ≤ g ∧ g < w.heap.size := World.ownsRow.form h hn
theorem OwnV.form' {w : World} {base : Nat} {v : Value} {vs : List Vw} (h : OwnV w base v vs) : ∃ A cap, v = .slice A vs.length cap ∧ IsViews w A vs.length vs := by
  rcases Nat.eq_zero_or_pos vs.length with h0 | h0
  · rcases h.2 with ⟨rfl, _⟩ | ⟨g, cap, cur, rfl, _⟩
    · exact ⟨none, 0, by rw [h0], rfl, .inl h0⟩
    · exact ⟨some ⟨g, 0, none⟩, cap, rfl, rfl, .inl h0⟩
  · obtain ⟨g, cap, rfl, hb, hg⟩ := h.form h0
    refine ⟨some ⟨g, 0, none⟩, cap, rfl, rfl, .inr ⟨g, 0, rfl, hg, fun i hi => ?_⟩⟩
    have key : ∀ j, j < vs.length * 3 → w.cell? ⟨g, j, none⟩ = some (.int .i64 ((canon vs).getD j 0)) := by
      intro j hj
      rw [World.ownsRow.cellAt h j hj]
      have : j < (canon vs).length := by rw [canon_len]; exact hj
      simp [nums, this]
    have e1 : 0 + i * 3 = 3 * i := by omega
    have hc := canon_get vs i
    rw [e1]
    refine ⟨?_, ?_, ?_⟩
    · rw [key _ (by omega), hc.1]
    · rw [key _ (by omega), hc.2.1]
    · rw [key _ (by omega), hc.2.2]
theorem OwnV.views {w : World} {base cap : Nat} {vs : List Vw} {A : Option Addr} {n : Nat} (h : OwnV w base (.slice A n cap) vs) : IsViews w A n vs ∧ vs.length = n := by
  obtain ⟨A', cap', e, hv⟩ := h.form'
  simp only [Value.slice.injEq] at e
  obtain ⟨rfl, e2, rfl⟩ := e
  rw [e2]
  exact ⟨hv, rfl⟩
theorem OwnV.of_block {w w' : World} {base g n cap : Nat} {vs : List Vw} (h : OwnV w base (.slice (some ⟨g, 0, none⟩) n cap) vs) (hb : w'.heap[g]? = w.heap[g]?) : OwnV w' base (.slice (some ⟨g, 0, none⟩) n cap) vs := by
  refine ⟨h.1, ?_⟩
  rcases h.2 with ⟨h', _⟩ | ⟨g', cap', cur, h', h3, h4, h5⟩
  · simp at h'
  · have h'' := h'
    simp only [Value.slice.injEq, Option.some.injEq, Addr.mk.injEq, and_true, true_and] at h''
    obtain ⟨rfl, _, _⟩ := h''
    exact .inr ⟨g, cap', cur, h', h3, hb.trans h4, h5⟩
theorem OwnV.cellAt {w : World} {base g cap n : Nat} {vs : List Vw} (h : OwnV w base (.slice (some ⟨g, 0, none⟩) n cap) vs) (hn : vs.length = n) (j : Nat) (hj : j < n * 3) : w.cell? ⟨g, j, none⟩ = some (.int .i64 ((canon vs).getD j 0)) ∧ w.frozen? ⟨g, j, none⟩ = false := by
  subst hn
  refine ⟨?_, World.ownsRow.frozenAt h j⟩
  rw [World.ownsRow.cellAt h j hj]
  have : j < (canon vs).length := by rw [canon_len]; exact hj
  simp [nums, this]
theorem OwnV.store {w : World} {base g cap n : Nat} {vs us : List Vw} (h : OwnV w base (.slice (some ⟨g, 0, none⟩) n cap) vs) (hn : vs.length = n) (hu : us.length = n) (j : Nat) (z : Int) (e : (canon vs).set j z = canon us) :
    OwnV (w.setCell ⟨g, j, none⟩ (.int .i64 z)) base (.slice (some ⟨g, 0, none⟩) n cap) us := by
  unfold OwnV at h ⊢
  rw [hn] at h
  rw [hu, ← e]
  have := (World.ownsRow.stored h j (.int .i64 z)).1
  unfold nums at this ⊢
  rw [List.map_set]
  exact this
/-- A store into another block below lo leaves what an Auto has seen. -/
theorem Saw.only {w w' : World} {p cl lo g : Nat} {vws : List (List Vw)} (h : Saw w p cl vws lo) (ho : Only g w w') (hg : g ≠ p) (hl : g < lo) : Saw w' p cl vws lo := by
  obtain ⟨ws, S, sc, h1, h2, h3, h4, h5⟩ := h
  have hp := World.block_lt_of_cell? w _ h1.c0
  have hb := ho.block p hp (by omega)
  refine ⟨ws, S, sc, ⟨(World.cell?_of_block (a := ⟨p, 0, none⟩) hb).trans h1.c0, (World.cell?_of_block (a := ⟨p, 1, none⟩) hb).trans h1.c1, (World.frozen?_of_block (a := ⟨p, 1, none⟩) hb).trans h1.f1, ?_, h1.wid, h1.few⟩, h2, h3, h4, h5⟩
  refine h1.own.kept (row := some g) ⟨ho.os, ho.tape, ho.output, ho.size, fun k hk hne => ho.block k hk (by simpa using hne)⟩ (.inr ?_)
  cases S with
  | none => simp [Value.ownBlock]
  | some ad => have := h4 ad rfl; simp [Value.ownBlock]; omega
/-- append(s, v): one view onto a row of the call's own, at a plain region's list. -/
theorem wpList_appV {ops : Array Oper} {rest : List Oper} {o : Oper} {a : Act} {w : World} {Q : Exit → Act → World → Prop} (hgd : o.guard = none) (s x : Operand)
    (ho : o.op = .call { callee := .builtin .append, args := #[s, x], argTypes := #[33, 33] }) (base : Nat) (v : Value) (vs : List Vw) (hs : a.eval s = v) (hown : OwnV w base v vs)
    (nb : Nat) (u : Vw) (hx : a.eval x = .slice (some ⟨nb, 0, none⟩) 1 1) (hb : w.heap[nb]? = some (.cells #[.int .i64 u.1, .int .i64 u.2.1, .int .i64 u.2.2] 48 (0, 0)))
    (hn : vs.length ≤ 1000) (hbase : base ≤ w.heap.size)
    (h : ∀ g cap w', OwnV w' base (.slice (some ⟨g, 0, none⟩) (vs.length + 1) cap) (vs ++ [u]) → w.grownBy w' v.ownBlock → wpList Try.prog ops Q rest (a.put o.dst (.slice (some ⟨g, 0, none⟩) (vs.length + 1) cap)) w') : wpList Try.prog ops Q (o :: rest) a w := by
  obtain ⟨i, z, hi, hz, h1, h2, h3⟩ := parts48
  refine wpList_append_lies w hgd s x 33 ho base 48 i z 3 24 Try.underlying33 hi hz h1 h2 h3 (by decide) v vs.length (nums (canon vs)) hs hown ⟨nb, 0, none⟩ 1 1 (nums (canon [u])) hx (by simp [nums, canon]) ?_ (ones _) (by decide) (by unfold maxLen; omega) (by omega) hbase w.heap.size rfl ?_
  · intro j q hj
    exact World.news_of_block hb j q (by simpa [nums, canon] using hj)
  · intro g cap w' ho' hg hat _
    refine h g cap w' ?_ hg
    unfold OwnV
    rw [canon_append, nums_append, List.length_append]
    exact ho'
theorem step_appV {w : World} {ops : Array Oper} {o : Oper} {a : Act} {K : Act → World → Prop} {Q : Exit → Act → World → Prop} {E : Prop} (hgd : o.guard = none) (s x : Operand)
    (ho : o.op = .call { callee := .builtin .append, args := #[s, x], argTypes := #[33, 33] }) (base : Nat) (v : Value) (vs : List Vw) (hs : a.eval s = v) (hown : OwnV w base v vs)
    (nb : Nat) (u : Vw) (hx : a.eval x = .slice (some ⟨nb, 0, none⟩) 1 1) (hb : w.heap[nb]? = some (.cells #[.int .i64 u.1, .int .i64 u.2.1, .int .i64 u.2.2] 48 (0, 0)))
    (hn : vs.length ≤ 1000) (hbase : base ≤ w.heap.size)
    (h : ∀ g cap w', OwnV w' base (.slice (some ⟨g, 0, none⟩) (vs.length + 1) cap) (vs ++ [u]) → w.grownBy w' v.ownBlock → K (a.put o.dst (.slice (some ⟨g, 0, none⟩) (vs.length + 1) cap)) w') :
    if Region.wanted o (yielded ops a.tmps) = true then Oper.wp Try.prog o a w K Q else E := by
  obtain ⟨i, z, hi, hz, h1, h2, h3⟩ := parts48
  refine step_append_lies w hgd s x 33 ho base 48 i z 3 24 Try.underlying33 hi hz h1 h2 h3 (by decide) v vs.length (nums (canon vs)) hs hown ⟨nb, 0, none⟩ 1 1 (nums (canon [u])) hx (by simp [nums, canon]) ?_ (ones _) (by decide) (by unfold maxLen; omega) (by omega) hbase w.heap.size rfl ?_
  · intro j q hj
    exact World.news_of_block hb j q (by simpa [nums, canon] using hj)
  · intro g cap w' ho' hg hat _
    refine h g cap w' ?_ hg
    unfold OwnV
    rw [canon_append, nums_append, List.length_append]
    exact ho'
/-- append([]View{}, l...), at a plain region's list: a copy of the row in a block of its own. -/
theorem wpList_copyV {ops : Array Oper} {rest : List Oper} {o : Oper} {a : Act} {w : World} {Q : Exit → Act → World → Prop} (hgd : o.guard = none) (s x : Operand)
    (ho : o.op = .call { callee := .builtin .append, args := #[s, x], argTypes := #[33, 33] }) (nb : Nat) (hs : a.eval s = .slice (some ⟨nb, 0, none⟩) 0 0) (hb : w.heap[nb]? = some (.cells #[] 48 (0, 0)))
    (A : Option Addr) (n cap : Nat) (vs : List Vw) (hx : a.eval x = .slice A n cap) (hv : IsViews w A n vs) (hn : n ≤ 1000) (hn0 : 0 < n)
    (h : ∀ g cap w', OwnV w' nb (.slice (some ⟨g, 0, none⟩) n cap) vs → w.grownBy w' (some nb) → wpList Try.prog ops Q rest (a.put o.dst (.slice (some ⟨g, 0, none⟩) n cap)) w') : wpList Try.prog ops Q (o :: rest) a w := by
  obtain ⟨i, z, hi, hz, h1, h2, h3⟩ := parts48
  obtain ⟨hl, h0 | ⟨b, off, rfl, hbl, hc⟩⟩ := hv
  · omega
  have hnb : nb < w.heap.size := (Array.getElem?_eq_some_iff.1 hb).1
  refine wpList_append_lies w hgd s x 33 ho nb 48 i z 3 24 Try.underlying33 hi hz h1 h2 h3 (by decide) _ 0 [] hs ⟨rfl, .inr ⟨nb, 0, #[], rfl, Nat.le_refl _, hb, Nat.le_refl _, Nat.zero_le _, rfl, rfl⟩⟩ ⟨b, off, none⟩ n cap (nums (canon vs)) hx (by simp [nums, canon_len, hl]) ?_ (ones _) hn0 (by unfold maxLen; omega) (by omega) (by omega) w.heap.size rfl ?_
  · intro j q hj
    have hj2 : j < n * 3 := by
      have := (List.getElem?_eq_some_iff.1 hj).1
      simp [nums, canon_len, hl] at this; exact this
    have hq : q = .int .i64 ((canon vs).getD j 0) := by
      have : j < (canon vs).length := by rw [canon_len, hl]; exact hj2
      simp [nums, this] at hj ⊢; exact hj.symm
    have hg := canon_get vs (j / 3)
    have hc := hc (j / 3) (by omega)
    rw [Addr.add_mid, hq]
    have h3 : j % 3 = 0 ∨ j % 3 = 1 ∨ j % 3 = 2 := by omega
    rcases h3 with h3 | h3 | h3
    · have e : j = 3 * (j / 3) := by omega
      have e2 : off + j = off + j / 3 * 3 := by omega
      rw [e2, hc.1, ← hg.1, ← e]
    · have e : j = 3 * (j / 3) + 1 := by omega
      have e2 : off + j = off + j / 3 * 3 + 1 := by omega
      rw [e2, hc.2.1, ← hg.2.1, ← e]
    · have e : j = 3 * (j / 3) + 2 := by omega
      have e2 : off + j = off + j / 3 * 3 + 2 := by omega
      rw [e2, hc.2.2, ← hg.2.2, ← e]
  · intro g cap w' ho' hg hat _
    rw [Nat.zero_add] at ho' ⊢
    refine h g cap w' ?_ (by simpa [Value.ownBlock] using hg)
    unfold OwnV
    rw [hl]
    simpa using ho'
end Go.Proofs.Ytkfpkgamjpdhaaa.Au
