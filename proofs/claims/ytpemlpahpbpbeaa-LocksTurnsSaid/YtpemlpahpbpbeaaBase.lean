/- Rows of whole numbers: appended to, read, made; small arithmetic. Conditions: those that each lemma names. -/
import Derived.Test.YtpemlpahpbpbeaaInts
import Derived.Deep.QuietTactic
import Derived.BigQuiet
import Derived.Deep.LoopGhost
import Derived.Deep.CutRange
import Derived.Deep.DeepCutAuto
import Derived.Deep.RegionWith
import Derived.Deep.RegionHeld3
namespace Go.Proofs.Ytpemlpahpbpbeaa.Lk
open Go.RowKit
set_option linter.unusedVariables false
set_option linter.unusedSimpArgs false
theorem hid {p : Prop} (h : p) : Hid p := h
theorem info3 : (Try.prog.info? 3).map (fun i => (i.zero, i.size, i.bytes)) = some (some (.int .i64 0), 1, 8) := by kernel_rfl
def nums (l : List Int) : List Value := l.map (Value.int .i64)
/-- append(s, y), s the call's own row of numbers. -/
theorem app1 {w : World} {ops : Array Oper} {rest : List Oper} {o : Oper} {a : Act} {Q : Exit → Act → World → Prop} (hgd : o.guard = none) (s x : Operand)
    (ho : o.op = .call { callee := .builtin .append, args := #[s, x], argTypes := #[35, 35] }) (base : Nat) (v : Value) (n : Nat) (xs : List Int) (hs : a.eval s = v)
    (hown : w.ownsRow base 3 1 v n (nums xs)) (nb : Nat) (y : Int) (hx : a.eval x = .slice (some ⟨nb, 0, none⟩) 1 1) (hc : w.cell? ⟨nb, 0, none⟩ = some (.int .i64 y)) (hn : n ≤ 1000) (hbase : base ≤ w.heap.size)
    (W : World) (hb : Below base W w)
    (h : ∀ g c w', base ≤ w'.heap.size → w'.ownsRow base 3 1 (.slice (some ⟨g, 0, none⟩) (n + 1) c) (n + 1) (nums (xs ++ [y])) → Below base W w' → wpList Try.prog ops Q rest (a.put o.dst (.slice (some ⟨g, 0, none⟩) (n + 1) c)) w') :
    wpList Try.prog ops Q (o :: rest) a w := by
  obtain ⟨i0, hi, hz0, hz1, hz2⟩ := info_parts info3
  refine wpList_append_own w hgd s x 35 ho base 3 i0 (.int .i64 0) 1 8 Try.underlying35 hi hz0 hz1 hz2 rfl (by decide) v n (nums xs) hs hown ⟨nb, 0, none⟩ 1 1 [.int .i64 y] hx rfl ?_ ?_ (by unfold maxLen; omega) (by omega) hbase ?_
  · intro j u hj
    match j, hj with
    | 0, hj => simp at hj; subst hj; exact hc
    | j + 1, hj => simp at hj
  · intro u hu; simp at hu; subst hu; rfl
  · intro v' w' hown' hg _
    have hb' := hb.grown hg hbase (fun k hk => by
      obtain ⟨_, h2⟩ := hown
      rcases h2 with ⟨rfl, _⟩ | ⟨g, cap, cur, rfl, hg, _⟩
      · simp [Value.ownBlock] at hk
      · simp [Value.ownBlock] at hk; omega)
    have hown2 := hown'
    obtain ⟨_, h2⟩ := hown'
    rcases h2 with ⟨_, h0⟩ | ⟨g, cap, cur, rfl, _⟩
    · omega
    · refine h g cap w' (Nat.le_trans hbase hg.size) ?_ hb'
      simpa [nums] using hown2

theorem IsInts.alloc {w : World} {A : Option Addr} {n : Nat} {zs : List Int} (h : IsInts w A n zs) (o : Obj) : IsInts (w.alloc o) A n zs := by
  obtain ⟨h1, h2⟩ := h
  refine ⟨h1, ?_⟩
  rcases h2 with h2 | ⟨b, off, h3, h4, h5⟩
  · exact .inl h2
  · exact .inr ⟨b, off, h3, by simp; omega, fun i hi => by rw [World.cell?_alloc_lt _ _ _ h4]; exact h5 i hi⟩
theorem IsInts.below {w w' : World} {A : Option Addr} {n : Nat} {zs : List Int} (h : IsInts w A n zs) (hb : Below w.heap.size w w') : IsInts w' A n zs := by
  obtain ⟨h1, h2⟩ := h
  refine ⟨h1, ?_⟩
  rcases h2 with h2 | ⟨b, off, h3, h4, h5⟩
  · exact .inl h2
  · exact .inr ⟨b, off, h3, Nat.lt_of_lt_of_le h4 hb.size, fun i hi => (hb.cell (p := ⟨b, off + i, none⟩) h4).trans (h5 i hi)⟩
theorem own_reads {w : World} {base g n c : Nat} {zs : List Int} (hn : zs.length = n) (h : w.ownsRow base 3 1 (.slice (some ⟨g, 0, none⟩) n c) n (nums zs)) : IsInts w (some ⟨g, 0, none⟩) n zs := by
  obtain ⟨h1, h | ⟨g', cap, cur, hv, hb, hg, hc, hm, hsz, ht⟩⟩ := h
  · cases h.1
  · cases hv
    refine ⟨hn, .inr ⟨g, 0, rfl, ?_, ?_⟩⟩
    · exact (Array.getElem?_eq_some_iff.1 hg).1
    · intro i hi
      simp only [World.cell?, hg]
      rw [Nat.zero_add]
      have hi2 : i < (nums zs).length := by simp [nums]; omega
      have e : (cur.toList.take (n * 1))[i]? = (nums zs)[i]? := by rw [ht]
      rw [List.getElem?_take, if_pos (by omega)] at e
      simp only [Array.getElem?_toList] at e
      simp [e, nums, List.getElem?_map]
      have : i < zs.length := by omega
      simp [this]

theorem heap_alloc_at (w : World) (o : Obj) : (w.alloc o).heap[w.heap.size]? = some o := by
  show (w.heap.push o)[w.heap.size]? = _
  simp
theorem ints_new (w : World) (zs : List Int) (n : Nat) (hn : zs.length = n) : IsInts (w.alloc (.cells (nums zs).toArray 3 (0, 0))) (some ⟨w.heap.size, 0, none⟩) n zs := by
  refine ⟨hn, .inr ⟨w.heap.size, 0, rfl, by simp, fun i hi => ?_⟩⟩
  simp only [World.cell?, heap_alloc_at]
  have : i < zs.length := by omega
  simp [nums, this]
theorem ints_at (w : World) (g : Nat) (zs : List Int) (n : Nat) (hn : zs.length = n) (hg : w.heap.size = g) : IsInts (w.alloc (.cells (nums zs).toArray 3 (0, 0))) (some ⟨g, 0, none⟩) n zs := by
  subst hg; exact ints_new w zs n hn
theorem IsInts.drewN {w : World} {A : Option Addr} {n : Nat} {zs : List Int} (h : IsInts w A n zs) (m : Nat) : IsInts (w.drewN m) A n zs := h
theorem Below.drewN' {B : Nat} {W w : World} (h : Below B W w) (m : Nat) : Below B W (w.drewN m) := h.trans ⟨rfl, rfl, rfl, Nat.le_refl _, fun _ _ => rfl⟩

theorem u64_range (x : Int) : 0 ≤ IntKind.u64.wrap x ∧ IntKind.u64.wrap x < 18446744073709551616 := by
  have : IntKind.u64.wrap x = x % 18446744073709551616 := by
    simp [IntKind.wrap, IntKind.signed, IntKind.bits]
  rw [this]; omega
theorem modu (x m : Int) (h0 : 0 < m) (h : m ≤ 4611686018427387904) : ∃ n, wrap64 ((IntKind.u64.wrap x).tmod m) = n ∧ 0 ≤ n ∧ n < m := by
  obtain ⟨a, b⟩ := u64_range x
  refine ⟨_, rfl, ?_⟩
  rw [Int.tmod_eq_emod_of_nonneg a]
  have h1 := Int.emod_nonneg (IntKind.u64.wrap x) (by omega : m ≠ 0)
  have h2 := Int.emod_lt_of_pos (IntKind.u64.wrap x) h0
  unfold wrap64
  omega
theorem modu1 (x m : Int) (h0 : 0 < m) (h : m ≤ 2305843009213693952) : ∃ n, wrap64 (1 + wrap64 ((IntKind.u64.wrap x).tmod m)) = n ∧ 1 ≤ n ∧ n ≤ m := by
  obtain ⟨n, e, a, b⟩ := modu x m h0 (by omega)
  refine ⟨1 + n, ?_, by omega, by omega⟩
  rw [e]
  unfold wrap64
  omega
end Go.Proofs.Ytpemlpahpbpbeaa.Lk
