/- The windows of one laid window: its steps in a region that draws. Conditions: those that each lemma names. -/
import Derived.Test.YtkfpkgamjpdhaaaMem
import Derived.Great.BuildSlice
namespace Go.Proofs.Ytkfpkgamjpdhaaa.Au
open Go.RowKit
set_option linter.unusedVariables false
set_option linter.unusedSimpArgs false
theorem fill24 (f : Nat → Value) (win : List Int) (h : win.length = 24) :
    Instr.fill (fun i => some (i * 24, 24)) ((Array.range (1 * 24)).map f) [(0, .agg (nums win).toArray)] = some (nums win).toArray := by
  obtain ⟨x0, x1, x2, x3, x4, x5, x6, x7, x8, x9, x10, x11, x12, x13, x14, x15, x16, x17, x18, x19, x20, x21, x22, x23, rfl⟩ := list24 win h
  have e : Array.range (1 * 24) = #[0, 1, 2, 3, 4, 5, 6, 7, 8, 9, 10, 11, 12, 13, 14, 15, 16, 17, 18, 19, 20, 21, 22, 23] := by decide +kernel
  rw [e]
  simp [Instr.fill, nums, Value.cells]
theorem row55 : Try.prog.underlying 55 = some (.array 8 48) := by kernel_rfl
theorem size55 : (Try.prog.info? 55).map (·.size) = some 24 := by kernel_rfl
/-- The load of a window. -/
theorem step_load55 {w : World} {ops : Array Oper} {o : Oper} {a : Act} {K : Act → World → Prop} {Q : Exit → Act → World → Prop} {E : Prop} (hgd : o.guard = none) (x : Operand)
    (ho : o.op = .load 55 x) (b off : Nat) (win : List Int) (hx : a.eval x = .pointer (some ⟨b, off, none⟩)) (hr : w.rangeAt b off (nums win)) (h24 : win.length = 24)
    (h : K (a.put o.dst (.agg (nums win).toArray)) w) :
    if Region.wanted o (yielded ops a.tmps) = true then Oper.wp Try.prog o a w K Q else E := by
  have hw : Region.wanted o (yielded ops a.tmps) = true := by simp [Region.wanted, hgd]
  rw [if_pos hw]
  exact wp_load_mid 55 x ho b off hx (nums win) (.array 8 48) hr row55 rfl (by rw [size55]; simp [nums, h24]) h
/-- The slice of one window. -/
theorem step_one55 {w : World} {ops : Array Oper} {o : Oper} {a : Act} {K : Act → World → Prop} {Q : Exit → Act → World → Prop} {E : Prop} (hgd : o.guard = none) (x : Operand)
    (ho : o.op = .buildSlice 51 1 #[(0, x)]) (win : List Int) (hx : a.eval x = .agg (nums win).toArray) (h24 : win.length = 24)
    (h : K (a.put o.dst (.slice (some ⟨w.heap.size, 0, none⟩) 1 1)) (w.alloc (.cells (nums win).toArray 55))) :
    if Region.wanted o (yielded ops a.tmps) = true then Oper.wp Try.prog o a w K Q else E := by
  have hw : Region.wanted o (yielded ops a.tmps) = true := by simp [Region.wanted, hgd]
  rw [if_pos hw]
  obtain ⟨i, z, hi, hz, h1, h2, h3⟩ := parts55
  refine wp_buildSlice 51 55 1 #[(0, x)] ho (nums win).toArray i z Try.underlying51 hi hz (by rw [h1]; decide) (by rw [h1]; decide) ?_ h
  rw [h1]
  have := fill24 (z.cells[· % z.cells.size]!) win h24
  simpa [hx] using this
theorem rangeAt_blk {w : World} {g : Nat} {win : List Int} (h : Blk 55 w g win) : w.rangeAt g 0 (nums win) := by
  intro j v hv
  rw [Nat.zero_add]
  unfold Blk at h
  rw [cell_of_row w g j _ 55 (0, 0) h]
  simpa using hv
theorem longer_of {w wr w2 : World} {p g2 cap2 sn cl : Nat} {u : Value} {ws : List (List Int)} {S : Option Addr} {win : List Int} (hsn : ws.length = sn) (hb : Below w.heap.size w wr) (hp : Part p S wr w2)
    (d0 : w2.cell? ⟨p, 0, none⟩ = some (.int .i64 cl)) (d1 : w2.cell? ⟨p, 1, none⟩ = some u) (d2 : w2.frozen? ⟨p, 1, none⟩ = false)
    (ho : w2.ownsRow (p + 1) 55 24 (.slice (some ⟨g2, 0, none⟩) (sn + 1) cap2) (sn + 1) (nums (ws.flatten ++ win))) :
    Longer w p cl ws S win (w2.setCell ⟨p, 1, none⟩ (.slice (some ⟨g2, 0, none⟩) (sn + 1) cap2)) := by
  subst hsn
  have hg := (own_lies ho _ rfl).1
  simp only at hg
  refine ⟨g2, cap2, by go_simp, by go_simp, by go_simp, ?_, ((Part.of_below hb).trans hp).trans (Part.of_only (Only.set p 1 w2 _))⟩
  refine ho.kept (row := some p) ⟨rfl, rfl, rfl, by simp [World.setCell], fun k hk hne => Below.heap_setCell _ _ _ _ (by simpa using hne)⟩ (.inr ?_)
  simp [Value.ownBlock]; omega
theorem flat_drop {ws : List (List Int)} (h : ∀ l ∈ ws, l.length = 24) : ∀ k, (ws.drop k).flatten = ws.flatten.drop (k * 24) := by
  induction ws with
  | nil => intro k; simp
  | cons a l ih =>
    intro k
    cases k with
    | zero => simp
    | succ k =>
      have ha : a.length = 24 := h a (List.mem_cons_self ..)
      rw [List.drop_succ_cons, ih (fun x hx => h x (List.mem_cons_of_mem _ hx)), List.flatten_cons, List.drop_append, (List.drop_eq_nil_of_le (by omega) : a.drop ((k + 1) * 24) = []), ha, List.nil_append]
      congr 1; omega
theorem wid_snoc {ws : List (List Int)} {win : List Int} (h : ∀ l ∈ ws, l.length = 24) (h24 : win.length = 24) : ∀ l ∈ ws ++ [win], l.length = 24 := by
  intro l hl
  rcases List.mem_append.1 hl with h1 | h1
  · exact h l h1
  · simp at h1; rw [h1]; exact h24
theorem last3_len {ws : List (List Int)} {win : List Int} {sn : Nat} (hsn : ws.length = sn) : (last3 (ws ++ [win])).length = sn + 1 - (sn + 1 - 3) := by
  simp [last3, hsn]
theorem range_last {w : World} {base g cap sn : Nat} {ws : List (List Int)} {win : List Int} (hsn : ws.length = sn) (hw : ∀ l ∈ ws, l.length = 24) (h24 : win.length = 24)
    (h : w.ownsRow base 55 24 (.slice (some ⟨g, 0, none⟩) (sn + 1) cap) (sn + 1) (nums (ws.flatten ++ win))) : w.rangeAt g ((sn + 1 - 3) * 24) (nums (last3 (ws ++ [win])).flatten) := by
  intro j v hv
  have e : (last3 (ws ++ [win])).flatten = (ws.flatten ++ win).drop ((sn + 1 - 3) * 24) := by
    unfold last3
    rw [flat_drop (wid_snoc hw h24)]
    simp [hsn]
  rw [e] at hv
  have hv2 : (nums (ws.flatten ++ win))[(sn + 1 - 3) * 24 + j]? = some v := by
    rw [← hv]; simp [nums]
  have hl := (List.getElem?_eq_some_iff.1 hv2).1
  rw [h.cellAt _ (by rw [← h.1]; exact hl)]
  exact hv2
theorem own_cap {w : World} {base g cap n : Nat} {xs : List Value} (h : w.ownsRow base 55 24 (.slice (some ⟨g, 0, none⟩) n cap) n xs) : n ≤ cap ∧ cap ≤ maxLen := by
  rcases h.2 with ⟨h', _⟩ | ⟨g', cap', cur, h', hb, hg, hnc, hcm, hcs, htake⟩
  · simp at h'
  · simp only [Value.slice.injEq, Option.some.injEq, Addr.mk.injEq, and_true, true_and] at h'
    obtain ⟨rfl, rfl⟩ := h'
    exact ⟨hnc, hcm⟩
theorem own_mono {w : World} {base base' e size : Nat} {v : Value} {n : Nat} {xs : List Value} (h : w.ownsRow base e size v n xs) (hb : base' ≤ base) : w.ownsRow base' e size v n xs := by
  refine ⟨h.1, ?_⟩
  rcases h.2 with h' | ⟨g', cap', cur, h', hb', hg⟩
  · exact .inl h'
  · exact .inr ⟨g', cap', cur, h', Nat.le_trans hb hb', hg⟩
theorem below_drew {w w' : World} (h : Below w.drew.heap.size w.drew w') : Below w.heap.size w w' := ⟨h.os, h.tape, h.output, h.size, h.block⟩
/-- The Auto behind See's last store. -/
theorem st_of {w wc w' : World} {p g' c' sn cl m : Nat} {u : Value} {ws : List (List Int)} {S : Option Addr} {win : List Int} (hsn : ws.length = sn) (hsn3 : sn ≤ 3) (hw : ∀ l ∈ ws, l.length = 24) (h24 : win.length = 24) (hp : p < wc.heap.size) (hpt : Part p S w wc) (hm : m = sn + 1 - (sn + 1 - 3))
    (hb : Below wc.heap.size wc w') (e0 : wc.cell? ⟨p, 0, none⟩ = some (.int .i64 cl)) (e1 : wc.cell? ⟨p, 1, none⟩ = some u) (e2 : wc.frozen? ⟨p, 1, none⟩ = false)
    (ho : w'.ownsRow wc.heap.size 55 24 (.slice (some ⟨g', 0, none⟩) m c') m (nums (last3 (ws ++ [win])).flatten)) :
    St (w'.setCell ⟨p, 1, none⟩ (.slice (some ⟨g', 0, none⟩) m c')) p cl (last3 (ws ++ [win])) (some ⟨g', 0, none⟩) c' ∧ Part p S w (w'.setCell ⟨p, 1, none⟩ (.slice (some ⟨g', 0, none⟩) m c')) ∧ w.heap.size ≤ g' := by
  have hml : (last3 (ws ++ [win])).length = m := by rw [last3_len hsn, hm]
  have hg := (own_lies ho _ rfl).1
  simp only at hg
  have d0 := (hb.cell (p := ⟨p, 0, none⟩) hp).trans e0
  have d1 := (hb.cell (p := ⟨p, 1, none⟩) hp).trans e1
  have d2 := (hb.frozen (p := ⟨p, 1, none⟩) hp).trans e2
  refine ⟨⟨by go_simp, by rw [hml]; go_simp, by go_simp, ?_, ?_, by omega⟩, (hpt.trans (Part.of_below hb)).trans (Part.of_only (Only.set p 1 w' _)), by have := hpt.size; omega⟩
  · rw [hml]
    refine (own_mono ho (by omega)).kept (row := some p) ⟨rfl, rfl, rfl, by simp [World.setCell], fun k hk hne => Below.heap_setCell _ _ _ _ (by simpa using hne)⟩ (.inr ?_)
    simp [Value.ownBlock]; omega
  · intro l hl
    exact wid_snoc hw h24 l (List.mem_of_mem_drop hl)
end Go.Proofs.Ytkfpkgamjpdhaaa.Au
