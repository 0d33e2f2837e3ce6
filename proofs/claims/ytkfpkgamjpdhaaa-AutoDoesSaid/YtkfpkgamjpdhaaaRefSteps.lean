/- The reference's See: its steps in a region that draws; what lies there behind them. Conditions: those that each lemma names. -/
import Derived.Test.YtkfpkgamjpdhaaaRefMem
namespace Go.Proofs.Ytkfpkgamjpdhaaa.Au
open Go.RowKit
set_option linter.unusedVariables false
set_option linter.unusedSimpArgs false
theorem views_news {w : World} {b off n : Nat} {vs : List Vw} (hl : vs.length = n) (hc : ∀ i, i < n → w.cell? ⟨b, off + i * 3, none⟩ = some (.int .i64 (vs.getD i (0, 0, 0)).1) ∧ w.cell? ⟨b, off + i * 3 + 1, none⟩ = some (.int .i64 (vs.getD i (0, 0, 0)).2.1) ∧ w.cell? ⟨b, off + i * 3 + 2, none⟩ = some (.int .i64 (vs.getD i (0, 0, 0)).2.2)) :
    ∀ j u, (nums (canon vs))[j]? = some u → w.cell? ((⟨b, off, none⟩ : Addr).add j) = some u := by
  intro j q hj
  have hj2 : j < n * 3 := by
    have := (List.getElem?_eq_some_iff.1 hj).1
    simp [nums, canon_len, hl] at this; exact this
  have hq : q = .int .i64 ((canon vs).getD j 0) := by
    have : j < (canon vs).length := by rw [canon_len, hl]; exact hj2
    simp [nums, this] at hj ⊢; exact hj.symm
  have hg := canon_get vs (j / 3)
  have hc := hc (j / 3) (by omega)
  rw [Addr.add_mid, hq]
  have h3 : j % 3 = 0 ∨ j % 3 = 1 ∨ j % 3 = 2 := by omega
  rcases h3 with h3 | h3 | h3
  · have e : j = 3 * (j / 3) := by omega
    have e2 : off + j = off + j / 3 * 3 := by omega
    rw [e2, hc.1, ← hg.1, ← e]
  · have e : j = 3 * (j / 3) + 1 := by omega
    have e2 : off + j = off + j / 3 * 3 + 1 := by omega
    rw [e2, hc.2.1, ← hg.2.1, ← e]
  · have e : j = 3 * (j / 3) + 2 := by omega
    have e2 : off + j = off + j / 3 * 3 + 2 := by omega
    rw [e2, hc.2.2, ← hg.2.2, ← e]
/-- append([]View{}, l...), as a step of a region that draws. -/
theorem step_copyR {w : World} {ops : Array Oper} {o : Oper} {a : Act} {K : Act → World → Prop} {Q : Exit → Act → World → Prop} {E : Prop} (hgd : o.guard = none) (s x : Operand)
    (ho : o.op = .call { callee := .builtin .append, args := #[s, x], argTypes := #[31, 31] }) (nb : Nat) (hs : a.eval s = .slice (some ⟨nb, 0, none⟩) 0 0) (hb : w.heap[nb]? = some (.cells #[] 44 (0, 0)))
    (A : Option Addr) (n cap : Nat) (vs : List Vw) (hx : a.eval x = .slice A n cap) (hv : IsViews w A n vs) (hn : n ≤ 1000) (hn0 : 0 < n)
    (h : ∀ g cap w', OwnR w' nb (.slice (some ⟨g, 0, none⟩) n cap) vs → w.grownBy w' (some nb) → K (a.put o.dst (.slice (some ⟨g, 0, none⟩) n cap)) w') :
    if Region.wanted o (yielded ops a.tmps) = true then Oper.wp Try.prog o a w K Q else E := by
  obtain ⟨i, z, hi, hz, h1, h2, h3⟩ := parts44
  obtain ⟨hl, h0 | ⟨b, off, rfl, hbl, hc⟩⟩ := hv
  · omega
  have hnb : nb < w.heap.size := (Array.getElem?_eq_some_iff.1 hb).1
  refine step_append_lies w hgd s x 31 ho nb 44 i z 3 24 Try.underlying31 hi hz h1 h2 h3 (by decide) _ 0 [] hs ⟨rfl, .inr ⟨nb, 0, #[], rfl, Nat.le_refl _, hb, Nat.le_refl _, Nat.zero_le _, rfl, rfl⟩⟩ ⟨b, off, none⟩ n cap (nums (canon vs)) hx (by simp [nums, canon_len, hl]) (views_news hl hc) (ones _) hn0 (by unfold maxLen; omega) (by omega) (by omega) w.heap.size rfl ?_
  intro g cap w' ho' hg hat _
  rw [Nat.zero_add] at ho' ⊢
  refine h g cap w' ?_ (by simpa [Value.ownBlock] using hg)
  unfold OwnR
  rw [hl]
  simpa using ho'
/-- append(W, r), as a step of a region that draws. -/
theorem step_appL {w : World} {ops : Array Oper} {o : Oper} {a : Act} {K : Act → World → Prop} {Q : Exit → Act → World → Prop} {E : Prop} (hgd : o.guard = none) (s x : Operand)
    (ho : o.op = .call { callee := .builtin .append, args := #[s, x], argTypes := #[22, 22] }) (base : Nat) (v : Value) (n : Nat) (xs : List Value) (hs : a.eval s = v) (hown : w.ownsRow base 31 1 v n xs)
    (nb : Nat) (A : Option Addr) (m c : Nat) (hx : a.eval x = .slice (some ⟨nb, 0, none⟩) 1 1) (hb : w.heap[nb]? = some (.cells #[.slice A m c] 31 (0, 0)))
    (hn : n ≤ 1000) (hbase : base ≤ w.heap.size)
    (h : ∀ g cap w', w'.ownsRow base 31 1 (.slice (some ⟨g, 0, none⟩) (n + 1) cap) (n + 1) (xs ++ [.slice A m c]) → w.grownBy w' v.ownBlock → (v.ownBlock = some g ∨ g = w.heap.size) → K (a.put o.dst (.slice (some ⟨g, 0, none⟩) (n + 1) cap)) w') :
    if Region.wanted o (yielded ops a.tmps) = true then Oper.wp Try.prog o a w K Q else E := by
  obtain ⟨i, z, hi, hz, h1, h2, h3⟩ := parts31
  refine step_append_lies w hgd s x 22 ho base 31 i z 1 24 Try.underlying22 hi hz h1 h2 h3 (by decide) v n xs hs hown ⟨nb, 0, none⟩ 1 1 [.slice A m c] hx rfl ?_ (by intro u hu; simp at hu; subst hu; rfl) (by decide) (by unfold maxLen; omega) (by omega) hbase w.heap.size rfl ?_
  · intro j q hj
    exact World.news_of_block hb j q (by simpa using hj)
  · intro g cap w' ho' hg hat _
    exact h g cap w' ho' hg hat
/-- append([][]View{}, W[1:]...), at a plain region's list. -/
theorem wpList_copyL {ops : Array Oper} {rest : List Oper} {o : Oper} {a : Act} {w : World} {Q : Exit → Act → World → Prop} (hgd : o.guard = none) (s x : Operand)
    (ho : o.op = .call { callee := .builtin .append, args := #[s, x], argTypes := #[22, 22] }) (nb : Nat) (hs : a.eval s = .slice (some ⟨nb, 0, none⟩) 0 0) (hb : w.heap[nb]? = some (.cells #[] 31 (0, 0)))
    (g0 off n cap : Nat) (xs : List Value) (hx : a.eval x = .slice (some ⟨g0, off, none⟩) n cap) (hl : xs.length = n) (hc : ∀ j u, xs[j]? = some u → w.cell? ⟨g0, off + j, none⟩ = some u) (h1c : ∀ u ∈ xs, u.oneCell' = true) (hn : n ≤ 1000) (hn0 : 0 < n)
    (h : ∀ g cap w', w'.ownsRow nb 31 1 (.slice (some ⟨g, 0, none⟩) n cap) n xs → w.grownBy w' (some nb) → wpList Try.prog ops Q rest (a.put o.dst (.slice (some ⟨g, 0, none⟩) n cap)) w') : wpList Try.prog ops Q (o :: rest) a w := by
  obtain ⟨i, z, hi, hz, h1, h2, h3⟩ := parts31
  have hnb : nb < w.heap.size := (Array.getElem?_eq_some_iff.1 hb).1
  refine wpList_append_lies w hgd s x 22 ho nb 31 i z 1 24 Try.underlying22 hi hz h1 h2 h3 (by decide) _ 0 [] hs ⟨rfl, .inr ⟨nb, 0, #[], rfl, Nat.le_refl _, hb, Nat.le_refl _, Nat.zero_le _, rfl, rfl⟩⟩ ⟨g0, off, none⟩ n cap xs hx (by omega) (fun j u hj => by rw [Addr.add_mid]; exact hc j u hj) h1c hn0 (by unfold maxLen; omega) (by omega) (by omega) w.heap.size rfl ?_
  intro g cap w' ho' hg hat _
  rw [Nat.zero_add] at ho' ⊢
  exact h g cap w' (by simpa using ho') (by simpa [Value.ownBlock] using hg)
theorem own_mono' {w : World} {base base' e size : Nat} {v : Value} {n : Nat} {xs : List Value} (h : w.ownsRow base e size v n xs) (hb : base' ≤ base) : w.ownsRow base' e size v n xs := by
  refine ⟨h.1, ?_⟩
  rcases h.2 with h' | ⟨g', cap', cur, h', hb', hg⟩
  · exact .inl h'
  · exact .inr ⟨g', cap', cur, h', Nat.le_trans hb hb', hg⟩
/-- Of what was there only q and the row of rows have turned. -/
structure RPart (q : Nat) (Wv : Value) (w w' : World) : Prop where
  os : w'.os = w.os
  tape : w'.tape = w.tape
  output : w'.output = w.output
  size : w.heap.size ≤ w'.heap.size
  block : ∀ k, k < w.heap.size → k ≠ q → Wv.ownBlock ≠ some k → w'.heap[k]? = w.heap[k]?
theorem RPart.of_below {q : Nat} {Wv : Value} {w w' : World} (h : Below w.heap.size w w') : RPart q Wv w w' := ⟨h.os, h.tape, h.output, h.size, fun k hk _ _ => h.block k hk⟩
theorem RPart.of_only {q : Nat} {Wv : Value} {w w' : World} (h : Only q w w') : RPart q Wv w w' := ⟨h.os, h.tape, h.output, h.size, fun k hk hp _ => h.block k hk hp⟩
theorem RPart.of_grown {q : Nat} {Wv : Value} {w w' : World} (h : w.grownBy w' Wv.ownBlock) : RPart q Wv w w' := ⟨h.os, h.tape, h.output, h.size, fun k hk _ hp => h.block k hk (fun e => hp e.symm)⟩
theorem RPart.trans {q : Nat} {Wv : Value} {a b c : World} (h : RPart q Wv a b) (k : RPart q Wv b c) : RPart q Wv a c :=
  ⟨k.os.trans h.os, k.tape.trans h.tape, k.output.trans h.output, Nat.le_trans h.size k.size, fun i hi hp hs => (k.block i (Nat.lt_of_lt_of_le hi h.size) hp hs).trans (h.block i hi hp hs)⟩
/-- Behind See's first statement: one row more. -/
def More (q base cl : Nat) (L : List (Value × List Vw)) (Wv : Value) (vs : List Vw) (w wx : World) : Prop :=
  ∃ L1 g3 cap3, RSt wx q base cl L1 (.slice (some ⟨g3, 0, none⟩) (L.length + 1) cap3) ∧ L1.map (·.2) = L.map (·.2) ++ [vs] ∧ L1.length = L.length + 1 ∧ RPart q Wv w wx ∧ ∀ k, Foot q (.slice (some ⟨g3, 0, none⟩) (L.length + 1) cap3) L1 k → Foot q Wv L k ∨ w.heap.size ≤ k
theorem more_of {w w2 w3 : World} {q base cl g1 cap1 g3 cap3 h0 : Nat} {L : List (Value × List Vw)} {Wv : Value} {vs : List Vw} (h : RSt w q base cl L Wv) (hL : L.length ≤ 3) (hbase : base ≤ w.heap.size) (hok : vs.all okV = true) (hl : vs.length = cl) (hcl : 0 < cl)
    (hb : Below w.heap.size w w2) (hh : w.heap.size ≤ h0) (ho2 : OwnR w2 h0 (.slice (some ⟨g1, 0, none⟩) cl cap1) vs)
    (hg : (w2.alloc (.cells #[.slice (some ⟨g1, 0, none⟩) cl cap1] 31)).grownBy w3 Wv.ownBlock) (hat : Wv.ownBlock = some g3 ∨ g3 = w2.heap.size + 1)
    (ho : w3.ownsRow base 31 1 (.slice (some ⟨g3, 0, none⟩) (L.length + 1) cap3) (L.length + 1) (L.map (·.1) ++ [.slice (some ⟨g1, 0, none⟩) cl cap1])) :
    More q base cl L Wv vs w (w3.setCell ⟨q, 1, none⟩ (.slice (some ⟨g3, 0, none⟩) (L.length + 1) cap3)) := by
  have hq := h.qlt
  have hqb := h.qb
  have hba : Below w2.heap.size w2 (w2.alloc (.cells #[.slice (some ⟨g1, 0, none⟩) cl cap1] 31)) := (Below.refl _ _).alloc (Nat.le_refl _) _
  have hsz2 := hb.size
  have hsz3 := hba.size
  have hsz4 := hg.size
  have hg1 := ho2.lt g1 rfl
  have hp : RPart q Wv w w3 := ((RPart.of_below hb).trans ⟨hba.os, hba.tape, hba.output, hba.size, fun k hk _ _ => hba.block k hk⟩).trans (RPart.of_grown hg)
  have hnq : some q ≠ Wv.ownBlock := fun e => by have := (h.own.lt q e.symm).1; omega
  have bq : w3.heap[q]? = w.heap[q]? := (hg.block q (by omega) hnq).trans ((hba.block q (by omega)).trans (hb.block q hq))
  have c0 := (World.cell?_of_block (a := ⟨q, 0, none⟩) bq).trans h.c0
  have c1 := (World.cell?_of_block (a := ⟨q, 1, none⟩) bq).trans h.c1
  have f1 := (World.frozen?_of_block (a := ⟨q, 1, none⟩) bq).trans h.f1
  have hg3 := ho.lt g3 rfl
  have keep : ∀ k, k < w3.heap.size → k ≠ q → (w3.setCell ⟨q, 1, none⟩ (.slice (some ⟨g3, 0, none⟩) (L.length + 1) cap3)).heap[k]? = w3.heap[k]? := fun k hk hne => (Only.set q 1 w3 _).block k hk hne
  have hnew : w3.heap[g1]? = w2.heap[g1]? := (hg.block g1 (by omega) (fun e => by have := (h.own.lt g1 e.symm).2; omega)).trans (hba.block g1 hg1.2)
  refine ⟨L ++ [(.slice (some ⟨g1, 0, none⟩) cl cap1, vs)], g3, cap3, ⟨by go_simp, by go_simp, by go_simp, ?_, ?_, ?_, by simp; omega, h.qb⟩, by simp, by simp, hp.trans (RPart.of_only (Only.set q 1 w3 _)), ?_⟩
  · have := own_of_block ho (w' := w3.setCell ⟨q, 1, none⟩ (.slice (some ⟨g3, 0, none⟩) (L.length + 1) cap3)) (fun g e => by simp [Value.ownBlock] at e; subst e; exact keep _ hg3.2 (by omega))
    simpa using this
  · intro x hx
    have hz : w3.heap.size ≤ (w3.setCell ⟨q, 1, none⟩ (.slice (some ⟨g3, 0, none⟩) (L.length + 1) cap3)).heap.size := by simp [World.setCell]
    rcases List.mem_append.1 hx with hx | hx
    · obtain ⟨b, off, c, e, k1, k2, k3, k4⟩ := h.row x hx
      refine ⟨b, off, c, e, k1, by omega, views_of_block k3 (by omega) ((keep b (by omega) (by omega)).trans (hp.block b k2 (by omega) k4)), fun e2 => ?_⟩
      simp [Value.ownBlock] at e2; subst e2
      rcases hat with hat | hat
      · exact k4 hat
      · omega
    · simp at hx; subst hx
      refine ⟨g1, 0, cap1, rfl, by omega, by omega, views_of_block (ho2.views.1) (by omega) ((keep g1 (by omega) (by omega)).trans hnew), fun e2 => ?_⟩
      simp [Value.ownBlock] at e2; subst e2
      rcases hat with hat | hat
      · have := (h.own.lt g3 hat).2; omega
      · omega
  · intro x hx
    rcases List.mem_append.1 hx with hx | hx
    · exact h.okv x hx
    · simp at hx; subst hx; exact hok
  · intro k hk
    rcases hk with rfl | hk | ⟨x, hx, hk⟩
    · exact .inl (.inl rfl)
    · simp [Value.ownBlock] at hk; subst hk
      rcases hat with hat | hat
      · exact .inl (.inr (.inl hat))
      · exact .inr (by omega)
    · rcases List.mem_append.1 hx with hx | hx
      · exact .inl (.inr (.inr ⟨x, hx, hk⟩))
      · simp at hx; subst hx
        simp [Value.ownBlock] at hk; subst hk
        exact .inr (by omega)
theorem drop_of {wc w5 : World} {q base cl g3 cap3 g5 cap5 nb : Nat} {L1 : List (Value × List Vw)} {Wv : Value} (h : RSt wc q base cl L1 (.slice (some ⟨g3, 0, none⟩) 4 cap3)) (h4 : L1.length = 4) (hbase : base ≤ wc.heap.size)
    (hb : Below wc.heap.size wc w5) (hnb : wc.heap.size ≤ nb) (ho : w5.ownsRow nb 31 1 (.slice (some ⟨g5, 0, none⟩) 3 cap5) 3 ((L1.drop 1).map (·.1))) :
    RSt (w5.setCell ⟨q, 1, none⟩ (.slice (some ⟨g5, 0, none⟩) 3 cap5)) q base cl (L1.drop 1) (.slice (some ⟨g5, 0, none⟩) 3 cap5) ∧ RPart q Wv wc (w5.setCell ⟨q, 1, none⟩ (.slice (some ⟨g5, 0, none⟩) 3 cap5)) ∧
      ∀ k, Foot q (.slice (some ⟨g5, 0, none⟩) 3 cap5) (L1.drop 1) k → Foot q (.slice (some ⟨g3, 0, none⟩) 4 cap3) L1 k ∨ wc.heap.size ≤ k := by
  have hq := h.qlt
  have hqb := h.qb
  have hsz := hb.size
  have c0 := (hb.cell (p := ⟨q, 0, none⟩) hq).trans h.c0
  have c1 := (hb.cell (p := ⟨q, 1, none⟩) hq).trans h.c1
  have f1 := (hb.frozen (p := ⟨q, 1, none⟩) hq).trans h.f1
  have hg5 := ho.lt g5 rfl
  have keep : ∀ k, k < w5.heap.size → k ≠ q → (w5.setCell ⟨q, 1, none⟩ (.slice (some ⟨g5, 0, none⟩) 3 cap5)).heap[k]? = w5.heap[k]? := fun k hk hne => (Only.set q 1 w5 _).block k hk hne
  have hdl : (L1.drop 1).length = 3 := by simp [h4]
  refine ⟨⟨by go_simp, by go_simp, by go_simp, ?_, ?_, fun x hx => h.okv x (List.mem_of_mem_drop hx), by omega, h.qb⟩, (RPart.of_below hb).trans (RPart.of_only (Only.set q 1 w5 _)), ?_⟩
  · rw [hdl]
    have := own_of_block ho (w' := w5.setCell ⟨q, 1, none⟩ (.slice (some ⟨g5, 0, none⟩) 3 cap5)) (fun g e => by simp [Value.ownBlock] at e; subst e; exact keep _ hg5.2 (by omega))
    exact own_mono' this (by omega)
  · intro x hx
    obtain ⟨b, off, c, e, k1, k2, k3, k4⟩ := h.row x (List.mem_of_mem_drop hx)
    have hz : w5.heap.size ≤ (w5.setCell ⟨q, 1, none⟩ (.slice (some ⟨g5, 0, none⟩) 3 cap5)).heap.size := by simp [World.setCell]
    refine ⟨b, off, c, e, k1, by omega, views_of_block k3 (by omega) ((keep b (by omega) (by omega)).trans (hb.block b k2)), fun e2 => ?_⟩
    simp [Value.ownBlock] at e2; omega
  · intro k hk
    rcases hk with rfl | hk | ⟨x, hx, hk⟩
    · exact .inl (.inl rfl)
    · simp [Value.ownBlock] at hk; subst hk
      exact .inr (by omega)
    · exact .inl (.inr (.inr ⟨x, List.mem_of_mem_drop hx, hk⟩))
end Go.Proofs.Ytkfpkgamjpdhaaa.Au
