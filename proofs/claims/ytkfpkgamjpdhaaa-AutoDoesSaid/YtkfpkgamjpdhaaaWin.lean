/- Rows of windows: appended to, copied; slices.Clone. Conditions: those that each contract names. -/
import Derived.Test.YtkfpkgamjpdhaaaBase
import Derived.Deep.CutBlock
import Derived.Deep.MidRow
import Derived.Deep.AppendLies
import Derived.Deep.RegionLaw
import Derived.WalkSpells
namespace Go.Proofs.Ytkfpkgamjpdhaaa.Au
open Go.RowKit
set_option linter.unusedVariables false
set_option linter.unusedSimpArgs false
theorem info55 : (Try.prog.info? 55).map (fun i => (i.size, i.bytes, i.zero.map (fun z => z.cells.size))) = some (24, 192, some 24) := by kernel_rfl
theorem parts55 : ∃ i z, Try.prog.info? 55 = some i ∧ i.zero = some z ∧ i.size = 24 ∧ i.bytes = 192 ∧ z.cells.size = 24 := by
  have h := info55
  cases hq : Try.prog.info? 55 with
  | none => rw [hq] at h; cases h
  | some i =>
    rw [hq] at h
    simp at h
    obtain ⟨h1, h2, h3⟩ := h
    obtain ⟨z, hz, h4⟩ := h3
    exact ⟨i, z, rfl, hz, h1, h2, h4⟩
theorem ones (l : List Int) : ∀ u ∈ nums l, u.oneCell' = true := by
  intro u hu; simp [nums] at hu; obtain ⟨y, _, rfl⟩ := hu; rfl
theorem nums_append (l r : List Int) : nums (l ++ r) = nums l ++ nums r := by simp [nums]
/-- append(s, w): one window onto a row of the call's own, as a step of a region that draws. -/
theorem step_appW {w : World} {ops : Array Oper} {o : Oper} {a : Act} {K : Act → World → Prop} {Q : Exit → Act → World → Prop} {E : Prop} (hgd : o.guard = none) (s x : Operand)
    (ho : o.op = .call { callee := .builtin .append, args := #[s, x], argTypes := #[51, 51] }) (base : Nat) (v : Value) (n : Nat) (flat : List Int) (hs : a.eval s = v)
    (hown : w.ownsRow base 55 24 v n (nums flat)) (nb : Nat) (win : List Int) (hx : a.eval x = .slice (some ⟨nb, 0, none⟩) 1 1) (hb : w.heap[nb]? = some (.cells (nums win).toArray 55 (0, 0)))
    (h24 : win.length = 24) (hn : n ≤ 3) (hbase : base ≤ w.heap.size)
    (h : ∀ g cap w', w'.ownsRow base 55 24 (.slice (some ⟨g, 0, none⟩) (n + 1) cap) (n + 1) (nums (flat ++ win)) → w.grownBy w' v.ownBlock → (v.ownBlock = some g ∨ g = w.heap.size) → K (a.put o.dst (.slice (some ⟨g, 0, none⟩) (n + 1) cap)) w') :
    if Region.wanted o (yielded ops a.tmps) = true then Oper.wp Try.prog o a w K Q else E := by
  obtain ⟨i, z, hi, hz, h1, h2, h3⟩ := parts55
  refine step_append_lies w hgd s x 51 ho base 55 i z 24 192 Try.underlying51 hi hz h1 h2 h3 (by decide) v n (nums flat) hs hown ⟨nb, 0, none⟩ 1 1 (nums win) hx (by simp [nums, h24]) ?_ (ones win) (by decide) (by unfold maxLen; omega) (by omega) hbase w.heap.size rfl ?_
  · intro j u hj
    have := World.news_of_block hb j u (by simpa using hj)
    exact this
  · intro g cap w' ho' hg hat _
    exact h g cap w' (by rw [nums_append]; exact ho') hg hat

theorem clone_any (g off m c : Nat) (flat : List Int) (w : World) (hr : w.rangeAt g off (nums flat)) (hl : flat.length = m * 24) (hm : 0 < m) (hm3 : m ≤ 3) :
    Calls Try.prog 16 #[.slice (some ⟨g, off, none⟩) m c] w fun e w' => ∃ g' c', e = .returned (.slice (some ⟨g', 0, none⟩) m c') ∧ w'.ownsRow w.heap.size 55 24 (.slice (some ⟨g', 0, none⟩) m c') m (nums flat) ∧ Below w.heap.size w w' ∧ w.heap.size ≤ g' := by
  have R := hid hr
  have L := hid hl
  clear hr hl
  obtain ⟨i, z, hi, hz, h1, h2, h3⟩ := parts55
  have I := hid (show Try.prog.info? 55 = some i ∧ i.zero = some z ∧ i.size = 24 ∧ i.bytes = 192 ∧ z.cells.size = 24 from ⟨hi, hz, h1, h2, h3⟩)
  clear hi hz h1 h2 h3
  have hnil := fun w => Lib.run_eql_slice_nil (P := Try.prog) w 51 55 (some ⟨g, off, none⟩) m c 0 0 Try.underlying51
  go_enter Try.func16, Try.ntmps16
  go_wp2_with (at_builtin; refine wpList_append_lies (w.alloc (.cells #[] 55)) rfl _ _ 51 rfl w.heap.size 55 i z 24 192 Try.underlying51 I.out.1 I.out.2.1 I.out.2.2.1 I.out.2.2.2.1 I.out.2.2.2.2 (by decide) _ 0 [] rfl ⟨rfl, .inr ⟨w.heap.size, 0, #[], rfl, Nat.le_refl _, heap_alloc_at _ _, Nat.le_refl _, Nat.zero_le _, rfl, rfl⟩⟩ ⟨g, off, none⟩ m c (nums flat) rfl (by simp [nums, L.out]) ?_ (ones flat) hm (by unfold maxLen; omega) (by omega) (by simp) _ rfl ?_)
  · intro j u hj
    rw [Addr.add_mid]
    have hc := R.out j u hj
    rw [World.cell?_alloc_lt _ _ _ (World.block_lt_of_cell? w _ hc)]
    exact hc
  · intro g' cap w' ho hg hat hlt
    have hg2 : w.heap.size ≤ g' := by
      rcases hat with h | h
      · simp [Value.ownBlock] at h; omega
      · rw [h]; simp
    have hb := ((Below.refl w.heap.size w).alloc (Nat.le_refl _) (.cells #[] 55)).grown hg (by simp) (fun k hk => by simp [Value.ownBlock] at hk; omega)
    have HO := hid ho
    have HB := hid hb
    clear ho hb hg hat
    go_wp2_with fail
    go_ret
    refine ⟨g', cap, by simp, by simpa using HO.out, HB.out, hg2⟩
end Go.Proofs.Ytkfpkgamjpdhaaa.Au
