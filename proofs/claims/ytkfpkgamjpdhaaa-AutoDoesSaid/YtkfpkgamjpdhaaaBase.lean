/- Rows of whole numbers: appended to, read, made; small arithmetic. Conditions: those that each lemma names. -/
import Derived.Test.YtkfpkgamjpdhaaaInts
import Derived.Deep.QuietTactic
import Derived.BigQuiet
import Derived.Deep.LoopGhost
import Derived.Deep.CutRange
import Derived.Deep.DeepCutAuto
import Derived.Deep.RegionWith
import Derived.Deep.RegionHeld3
namespace Go.Proofs.Ytkfpkgamjpdhaaa.Au
open Go.RowKit
set_option linter.unusedVariables false
set_option linter.unusedSimpArgs false
theorem hid {p : Prop} (h : p) : Hid p := h
theorem info3 : (Try.prog.info? 3).map (fun i => (i.zero, i.size, i.bytes)) = some (some (.int .i64 0), 1, 8) := by kernel_rfl
def nums (l : List Int) : List Value := l.map (Value.int .i64)
theorem IsInts.alloc {w : World} {A : Option Addr} {n : Nat} {zs : List Int} (h : IsInts w A n zs) (o : Obj) : IsInts (w.alloc o) A n zs := by
  obtain ⟨h1, h2⟩ := h
  refine ⟨h1, ?_⟩
  rcases h2 with h2 | ⟨b, off, h3, h4, h5⟩
  · exact .inl h2
  · exact .inr ⟨b, off, h3, by simp; omega, fun i hi => by rw [World.cell?_alloc_lt _ _ _ h4]; exact h5 i hi⟩
theorem IsInts.below {w w' : World} {A : Option Addr} {n : Nat} {zs : List Int} (h : IsInts w A n zs) (hb : Below w.heap.size w w') : IsInts w' A n zs := by
  obtain ⟨h1, h2⟩ := h
  refine ⟨h1, ?_⟩
  rcases h2 with h2 | ⟨b, off, h3, h4, h5⟩
  · exact .inl h2
  · exact .inr ⟨b, off, h3, Nat.lt_of_lt_of_le h4 hb.size, fun i hi => (hb.cell (p := ⟨b, off + i, none⟩) h4).trans (h5 i hi)⟩
theorem heap_alloc_at (w : World) (o : Obj) : (w.alloc o).heap[w.heap.size]? = some o := by
  show (w.heap.push o)[w.heap.size]? = _
  simp
theorem ints_new (w : World) (zs : List Int) (n : Nat) (hn : zs.length = n) : IsInts (w.alloc (.cells (nums zs).toArray 3 (0, 0))) (some ⟨w.heap.size, 0, none⟩) n zs := by
  refine ⟨hn, .inr ⟨w.heap.size, 0, rfl, by simp, fun i hi => ?_⟩⟩
  simp only [World.cell?, heap_alloc_at]
  have : i < zs.length := by omega
  simp [nums, this]
theorem ints_at (w : World) (g : Nat) (zs : List Int) (n : Nat) (hn : zs.length = n) (hg : w.heap.size = g) : IsInts (w.alloc (.cells (nums zs).toArray 3 (0, 0))) (some ⟨g, 0, none⟩) n zs := by
  subst hg; exact ints_new w zs n hn
theorem IsInts.drewN {w : World} {A : Option Addr} {n : Nat} {zs : List Int} (h : IsInts w A n zs) (m : Nat) : IsInts (w.drewN m) A n zs := h
theorem Below.drewN' {B : Nat} {W w : World} (h : Below B W w) (m : Nat) : Below B W (w.drewN m) := h.trans ⟨rfl, rfl, rfl, Nat.le_refl _, fun _ _ => rfl⟩

theorem u64_range (x : Int) : 0 ≤ IntKind.u64.wrap x ∧ IntKind.u64.wrap x < 18446744073709551616 := by
  have : IntKind.u64.wrap x = x % 18446744073709551616 := by
    simp [IntKind.wrap, IntKind.signed, IntKind.bits]
  rw [this]; omega
theorem modu (x m : Int) (h0 : 0 < m) (h : m ≤ 4611686018427387904) : ∃ n, wrap64 ((IntKind.u64.wrap x).tmod m) = n ∧ 0 ≤ n ∧ n < m := by
  obtain ⟨a, b⟩ := u64_range x
  refine ⟨_, rfl, ?_⟩
  rw [Int.tmod_eq_emod_of_nonneg a]
  have h1 := Int.emod_nonneg (IntKind.u64.wrap x) (by omega : m ≠ 0)
  have h2 := Int.emod_lt_of_pos (IntKind.u64.wrap x) h0
  unfold wrap64
  omega
theorem modu1 (x m : Int) (h0 : 0 < m) (h : m ≤ 2305843009213693952) : ∃ n, wrap64 (1 + wrap64 ((IntKind.u64.wrap x).tmod m)) = n ∧ 1 ≤ n ∧ n ≤ m := by
  obtain ⟨n, e, a, b⟩ := modu x m h0 (by omega)
  refine ⟨1 + n, ?_, by omega, by omega⟩
  rw [e]
  unfold wrap64
  omega

/-- A block of whole numbers. -/
def Blk (T : TypeId) (w : World) (g : Nat) (l : List Int) : Prop := w.heap[g]? = some (.cells (nums l).toArray T (0, 0))
theorem Blk.lt {T : TypeId} {w : World} {g : Nat} {l : List Int} (h : Blk T w g l) : g < w.heap.size := (Array.getElem?_eq_some_iff.1 h).1
theorem Blk.cell {T : TypeId} {w : World} {g : Nat} {l : List Int} (h : Blk T w g l) (i : Nat) (hi : i < l.length) : w.cell? ⟨g, i, none⟩ = some (.int .i64 (l.getD i 0)) := by
  unfold Blk at h; simp only [World.cell?, h]; simp [nums, hi]
theorem Blk.free {T : TypeId} {w : World} {g : Nat} {l : List Int} (h : Blk T w g l) (i : Nat) : w.frozen? ⟨g, i, none⟩ = false := by
  unfold Blk at h; simp only [World.frozen?, h]; simp
theorem Blk.set {T : TypeId} {w : World} {g : Nat} {l : List Int} (h : Blk T w g l) (i : Nat) (v : Int) : Blk T (w.setCell ⟨g, i, none⟩ (.int .i64 v)) g (l.set i v) := by
  unfold Blk at h ⊢
  simp only [World.setCell, Array.getElem?_modify, h]
  simp [nums, List.map_set]
theorem Blk.other {T : TypeId} {w w' : World} {g : Nat} {l : List Int} (h : Blk T w g l) (hb : w'.heap[g]? = w.heap[g]?) : Blk T w' g l := by unfold Blk; rw [hb]; exact h
theorem Blk.alloc {T : TypeId} {w : World} {g : Nat} {l : List Int} (h : Blk T w g l) (o : Obj) : Blk T (w.alloc o) g l := h.other (Below.heap_alloc _ _ _ h.lt)
theorem Blk.new (T : TypeId) (w : World) (l : List Int) (g : Nat) (hg : w.heap.size = g) : Blk T (w.alloc (.cells (nums l).toArray T (0, 0))) g l := by subst hg; exact heap_alloc_at _ _
theorem Blk.drewN {T : TypeId} {w : World} {g : Nat} {l : List Int} (h : Blk T w g l) (m : Nat) : Blk T (w.drewN m) g l := h
theorem Blk.drew {T : TypeId} {w : World} {g : Nat} {l : List Int} (h : Blk T w g l) : Blk T w.drew g l := h
theorem Blk.setOther {T : TypeId} {w : World} {g : Nat} {l : List Int} (h : Blk T w g l) (a : Addr) (v : Value) (hne : g ≠ a.block) : Blk T (w.setCell a v) g l := h.other (Below.heap_setCell _ _ _ _ hne)
theorem set_get (bs : List Int) (x i : Nat) (v : Int) (hx : x < bs.length) : (bs.set x v).getD i 0 = if i = x then v else bs.getD i 0 := by
  by_cases h : i = x
  · subst h; simp [hx]
  · rw [if_neg h]
    simp only [List.getD_eq_getElem?_getD]
    rw [List.getElem?_set_ne (by omega)]
/-- Of what was there only block p has turned. -/
structure Only (p : Nat) (w w' : World) : Prop where
  os : w'.os = w.os
  tape : w'.tape = w.tape
  output : w'.output = w.output
  size : w.heap.size ≤ w'.heap.size
  block : ∀ k, k < w.heap.size → k ≠ p → w'.heap[k]? = w.heap[k]?
theorem Only.refl (p : Nat) (w : World) : Only p w w := ⟨rfl, rfl, rfl, Nat.le_refl _, fun _ _ _ => rfl⟩
theorem Only.trans {p : Nat} {a b c : World} (h : Only p a b) (k : Only p b c) : Only p a c :=
  ⟨k.os.trans h.os, k.tape.trans h.tape, k.output.trans h.output, Nat.le_trans h.size k.size, fun i hi hp => (k.block i (Nat.lt_of_lt_of_le hi h.size) hp).trans (h.block i hi hp)⟩
theorem Only.of_below {p : Nat} {w w' : World} (h : Below w.heap.size w w') : Only p w w' := ⟨h.os, h.tape, h.output, h.size, fun k hk _ => h.block k hk⟩
theorem Only.set (p i : Nat) (w : World) (v : Value) : Only p w (w.setCell ⟨p, i, none⟩ v) := ⟨rfl, rfl, rfl, by simp [World.setCell], fun k hk hp => Below.heap_setCell _ _ _ _ hp⟩
theorem Only.below {p B : Nat} {W w w' : World} (hb : Below B W w) (h : Only p w w') (hp : B ≤ p) (hB : B ≤ w.heap.size) : Below B W w' :=
  hb.trans ⟨h.os, h.tape, h.output, h.size, fun k hk => h.block k (by omega) (by omega)⟩
theorem Only.cell {p : Nat} {w w' : World} (h : Only p w w') {a : Addr} (hl : a.block < w.heap.size) (hp : a.block ≠ p) : w'.cell? a = w.cell? a := World.cell?_of_block (w := w) (h.block a.block hl hp)
end Go.Proofs.Ytkfpkgamjpdhaaa.Au
