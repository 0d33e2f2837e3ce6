/- ClassesFor, and reading, comparing and copying rows of numbers. Conditions: those that each contract names. -/
import Derived.Test.YtnfglonkbhcjgaaFns
import Derived.Laws.AppendOwnNone
namespace Go.Proofs.Ytnfglonkbhcjgaa.Cs
open Go.RowKit
set_option linter.unusedVariables false
set_option linter.unusedSimpArgs false

theorem same_any (A A' : Option Addr) (n c n' c' : Nat) (zs ys : List Int) (w : World) (hl : IsInts w A n zs) (hl' : IsInts w A' n' ys) (hn : n ≤ 9223372036854775807) (hn' : n' ≤ 9223372036854775807) :
    Calls Try.prog 12 #[.slice A n c, .slice A' n' c'] w fun e w' => e = .returned (.bool (decide (zs = ys))) ∧ ∃ m, w' = w.drewN m := by
  have HL := hid hl
  have HL' := hid hl'
  clear hl hl'
  by_cases hne : n = n'
  · subst hne
    go_enter Try.func12, Try.ntmps12
    go_wp2_with fail
    go_loopw [5] (fun i wr => ∃ k m : Nat, k ≤ n ∧ i = .int .i64 k ∧ wr = w.drewN m ∧ Hid (∀ i, i < k → zs.getD i 0 = ys.getD i 0)) (fun i _ => n - (intOf i).toNat)
    case atStart => exact ⟨0, 0, Nat.zero_le _, rfl, rfl, hid (fun i hi => absurd hi (by omega))⟩
    case round =>
      obtain ⟨k, m, hk, rfl, rfl, HF⟩ := hrel
      by_cases hlt : k < n
      · obtain ⟨b, off, hA, hb, hc⟩ : ∃ b off, A = some ⟨b, off, none⟩ ∧ b < w.heap.size ∧ ∀ i, i < n → w.cell? ⟨b, off + i, none⟩ = some (.int .i64 (zs.getD i 0)) := by
          rcases HL.out with ⟨_, h0 | h⟩
          · omega
          · exact h
        obtain ⟨b', off', hA', hb', hc'⟩ : ∃ b off, A' = some ⟨b, off, none⟩ ∧ b < w.heap.size ∧ ∀ i, i < n → w.cell? ⟨b, off + i, none⟩ = some (.int .i64 (ys.getD i 0)) := by
          rcases HL'.out with ⟨_, h0 | h⟩
          · omega
          · exact h
        subst hA
        subst hA'
        have ha := hc k hlt
        have ha' := hc' k hlt
        clear hc hc'
        obtain ⟨z, hz⟩ : ∃ z, zs.getD k 0 = z := ⟨_, rfl⟩
        obtain ⟨y, hy⟩ : ∃ y, ys.getD k 0 = y := ⟨_, rfl⟩
        rw [hz] at ha
        rw [hy] at ha'
        have HZ := hid hz
        have HY := hid hy
        clear hz hy
        have hi0 : (k : Int) < (n : Int) := by omega
        by_cases he : z = y
        · subst he
          go_wp2_with fail
          go_quiet (fail)
          go_wp2_with fail
          go_roundw
          case rel => exact ⟨k + 1, _, by omega, by go_num, rfl, hid (fun i hi => by
            rcases Nat.lt_or_ge i k with h | h
            · exact HF.out i h
            · have : i = k := by omega
              subst this; rw [HZ.out, HY.out])⟩
          case measure => simp [intOf]; omega
        · have he' : (z == y) = false := by simp [he]
          have he2 : (z != y) = true := by simp [he]
          have HE := hid he
          clear he
          go_wp2_with fail
          go_quiet (fail)
          go_wp2_with fail
          go_ret
          refine ⟨?_, _, (World.drewN_drewN _ _ _)⟩
          have : zs ≠ ys := fun h => HE.out (by rw [← HZ.out, ← HY.out, h])
          simp [this]
      · obtain rfl : k = n := by omega
        go_wp2_with fail
        go_ret
        refine ⟨?_, _, rfl⟩
        have h1 := HL.out.1
        have h2 := HL'.out.1
        have : zs = ys := by
          apply List.ext_getElem (by omega)
          intro i hi hi'
          have := HF.out i (by omega)
          simpa [hi, hi'] using this
        simp [this]
  · have hb : ((n : Int) != (n' : Int)) = true := by simp; omega
    have hb2 : ((n : Int) == (n' : Int)) = false := by simp; omega
    have HN := hid hne
    clear hne
    go_enter Try.func12, Try.ntmps12
    go_wp2_with fail
    go_ret
    refine ⟨?_, 0, rfl⟩
    have h1 := HL.out.1
    have h2 := HL'.out.1
    have : zs ≠ ys := fun h => HN.out (by rw [← h1, ← h2, h])
    simp [this]

theorem IsInts.alloc {w : World} {A : Option Addr} {n : Nat} {zs : List Int} (h : IsInts w A n zs) (o : Obj) : IsInts (w.alloc o) A n zs := by
  obtain ⟨h1, h2⟩ := h
  refine ⟨h1, ?_⟩
  rcases h2 with h2 | ⟨b, off, h3, h4, h5⟩
  · exact .inl h2
  · exact .inr ⟨b, off, h3, by simp; omega, fun i hi => by rw [World.cell?_alloc_lt _ _ _ h4]; exact h5 i hi⟩
theorem IsInts.below {w w' : World} {A : Option Addr} {n : Nat} {zs : List Int} (h : IsInts w A n zs) (hb : Below w.heap.size w w') : IsInts w' A n zs := by
  obtain ⟨h1, h2⟩ := h
  refine ⟨h1, ?_⟩
  rcases h2 with h2 | ⟨b, off, h3, h4, h5⟩
  · exact .inl h2
  · exact .inr ⟨b, off, h3, Nat.lt_of_lt_of_le h4 hb.size, fun i hi => (hb.cell (p := ⟨b, off + i, none⟩) h4).trans (h5 i hi)⟩
theorem own_reads {w : World} {base g n c : Nat} {zs : List Int} (hn : zs.length = n) (h : w.ownsRow base 3 1 (.slice (some ⟨g, 0, none⟩) n c) n (nums zs)) : IsInts w (some ⟨g, 0, none⟩) n zs := by
  obtain ⟨h1, h | ⟨g', cap, cur, hv, hb, hg, hc, hm, hsz, ht⟩⟩ := h
  · cases h.1
  · cases hv
    refine ⟨hn, .inr ⟨g, 0, rfl, ?_, ?_⟩⟩
    · exact (Array.getElem?_eq_some_iff.1 hg).1
    · intro i hi
      simp only [World.cell?, hg]
      rw [Nat.zero_add]
      have hi2 : i < (nums zs).length := by simp [nums]; omega
      have e : (cur.toList.take (n * 1))[i]? = (nums zs)[i]? := by rw [ht]
      rw [List.getElem?_take, if_pos (by omega)] at e
      simp only [Array.getElem?_toList] at e
      simp [e, nums, List.getElem?_map]
      have : i < zs.length := by omega
      simp [this]

theorem heap_alloc_at (w : World) (o : Obj) : (w.alloc o).heap[w.heap.size]? = some o := by
  show (w.heap.push o)[w.heap.size]? = _
  simp
/-- append([]int{}, table...), whatever the table. -/
theorem appAll {w : World} {ops : Array Oper} {rest : List Oper} {o : Oper} {a : Act} {Q : Exit → Act → World → Prop} (hgd : o.guard = none) (s x : Operand)
    (ho : o.op = .call { callee := .builtin .append, args := #[s, x], argTypes := #[22, 22] }) (g : Nat) (hs : a.eval s = .slice (some ⟨g, 0, none⟩) 0 0) (hg : w.heap[g]? = some (.cells #[] 3 (0, 0)))
    (A : Option Addr) (m c : Nat) (zs : List Int) (hl : IsInts w A m zs) (hx : a.eval x = .slice A m c) (hA : A = none → c = 0) (hm : m ≤ 1000)
    (W : World) (hW : W.heap.size ≤ g) (hb : Below W.heap.size W w)
    (h : ∀ A' c' w', IsInts w' A' m zs → Below W.heap.size W w' → wpList Try.prog ops Q rest (a.put o.dst (.slice A' m c')) w') :
    wpList Try.prog ops Q (o :: rest) a w := by
  obtain ⟨i0, hi, hz0, hz1, hz2⟩ := info_parts info3
  have hown : w.ownsRow g 3 1 (.slice (some ⟨g, 0, none⟩) 0 0) 0 [] := ⟨rfl, .inr ⟨g, 0, #[], rfl, Nat.le_refl _, hg, Nat.le_refl _, Nat.zero_le _, rfl, rfl⟩⟩
  have hgs : g < w.heap.size := (Array.getElem?_eq_some_iff.1 hg).1
  obtain ⟨hz, hl2⟩ := hl
  cases A with
  | none =>
    have hm0 : m = 0 := by
      rcases hl2 with h0 | ⟨b, off, h0, _⟩
      · exact h0
      · cases h0
    subst hm0
    obtain rfl := hA rfl
    refine wpList_append_own_none hgd s x 22 ho g 3 i0 1 Try.underlying22 hi _ 0 [] hs hown hx ?_
    exact h (some ⟨g, 0, none⟩) 0 w ⟨hz, .inl rfl⟩ hb
  | some ad =>
    refine wpList_append_own w hgd s x 22 ho g 3 i0 (.int .i64 0) 1 8 Try.underlying22 hi hz0 hz1 hz2 rfl (by decide) _ 0 [] hs hown ad m c (nums zs) hx (by simp [nums, hz]) ?_ ?_ (by unfold maxLen; omega) (by omega) (by omega) ?_
    · intro j u hj
      have hjl : j < zs.length := by have := (List.getElem?_eq_some_iff.1 hj).1; simpa [nums] using this
      rcases hl2 with h0 | ⟨b, off, h0, h1, h2⟩
      · omega
      · cases h0
        have := h2 j (by omega)
        simp [nums, List.getElem?_map, hjl] at hj
        subst hj
        have e : (⟨b, off, none⟩ : Addr).add j = ⟨b, off + j, none⟩ := by
          unfold Addr.add
          split
          · next h0 => subst h0; rfl
          · rfl
        rw [e, this]
        simp [hjl]
    · intro u hu; simp [nums] at hu; obtain ⟨y, _, rfl⟩ := hu; rfl
    · intro v' w' hown' hgr _
      have hb' := hb.grown hgr (by omega) (fun k hk => by simp [Value.ownBlock] at hk; omega)
      have hown2 := hown'
      obtain ⟨_, h2⟩ := hown'
      rcases h2 with ⟨rfl, h0⟩ | ⟨g', cap, cur, rfl, _⟩
      · have : m = 0 := by omega
        subst this
        exact h none 0 w' ⟨hz, .inl rfl⟩ hb'
      · rw [Nat.zero_add] at hown2 ⊢
        exact h _ cap w' (own_reads hz (by simpa using hown2)) hb'

set_option maxHeartbeats 400000 in
theorem for_law (A : Option Addr) (n c : Nat) (zs : List Int) (x : Int) (w : World) (hl : IsInts w A n zs) (hn : n ≤ 9223372036854775807) (hA : A = none → c = 0) :
    Calls Try.prog 4 #[.slice A n c, .int .i64 x] w fun e w' => e = .returned (.bool true) ∧ Below w.heap.size w w' := by
  by_cases hbig : 1000 < n
  · go_enter Try.func4, Try.ntmps4
    go_wp2_with fail
    go_ret
    exact ⟨rfl, Below.refl _ _⟩
  · have HA := hid hA
    have HL := hid hl
    clear hA hl
    obtain ⟨p, hp⟩ : ∃ p, (if x < 1 then (0 : Int) else 1024 / x) = p := ⟨_, rfl⟩
    obtain ⟨q, hq⟩ : ∃ q, (if x < 1 then (1024 : Int) else 1024 % x) = q := ⟨_, rfl⟩
    have HP := hid hp
    have HQ := hid hq
    clear hp hq
    go_enter Try.func4, Try.ntmps4
    go_wp2_with (at_builtin; refine appAll rfl _ _ rfl w.heap.size rfl (heap_alloc_at _ _) A n c zs (HL.out.alloc _) rfl HA.out (by omega) w (Nat.le_refl _) ((Below.refl _ _).alloc (Nat.le_refl _) _) ?_; intro A1 c1 w1 hl1 hb1)
    have HL1 := hid hl1
    have HB1 := hid hb1
    clear hl1 hb1
    go_wp2_with fail
    refine (for_any _ _ _ zs _ _ HL1.out hn).mono ?_; rintro e w' ⟨rfl, rfl⟩
    go_wp2_with fail
    refine (rfor_any _ _ _ zs _ _ (HL.out.below HB1.out) hn).mono ?_; rintro e w' ⟨rfl, rfl⟩
    go_wp2_with fail
    refine (page_any _ _).mono ?_; rintro e w' ⟨rfl, rfl⟩
    rw [HP.out]
    go_wp2_with fail
    refine (rpage_any _ _).mono ?_; rintro e w' ⟨rfl, rfl⟩
    rw [HP.out]
    go_wp2_with fail
    refine (waste_any _ _).mono ?_; rintro e w' ⟨rfl, rfl⟩
    rw [HQ.out]
    go_wp2_with fail
    refine (rwaste_any _ _).mono ?_; rintro e w' ⟨rfl, rfl⟩
    rw [HQ.out]
    go_wp2_with fail
    go_ret
    exact ⟨rfl, HB1.out⟩
end Go.Proofs.Ytnfglonkbhcjgaa.Cs
