/- LocksDoes: whatever acts come, the program's locks and the document's answer alike. No condition. -/
import Derived.Test.YtpemlpahpbpbeaaRef
import Derived.Deep.CutBlock
namespace Go.Proofs.Ytpemlpahpbpbeaa.Lk
open Go.RowKit
set_option linter.unusedVariables false
set_option linter.unusedSimpArgs false
theorem same_any (A A' : Option Addr) (n c n' c' : Nat) (zs ys : List Int) (w : World) (hl : IsInts w A n zs) (hl' : IsInts w A' n' ys) (hn : n ≤ 9223372036854775807) (hn' : n' ≤ 9223372036854775807) :
    Calls Try.prog 15 #[.slice A n c, .slice A' n' c'] w fun e w' => e = .returned (.bool (decide (zs = ys))) ∧ ∃ m, w' = w.drewN m := by
  have HL := hid hl
  have HL' := hid hl'
  clear hl hl'
  by_cases hne : n = n'
  · subst hne
    go_enter Try.func15, Try.ntmps15
    go_wp2_with fail
    go_loopw [5] (fun i wr => ∃ k m : Nat, k ≤ n ∧ i = .int .i64 k ∧ wr = w.drewN m ∧ Hid (∀ i, i < k → zs.getD i 0 = ys.getD i 0)) (fun i _ => n - (intOf i).toNat)
    case atStart => exact ⟨0, 0, Nat.zero_le _, rfl, rfl, hid (fun i hi => absurd hi (by omega))⟩
    case round =>
      obtain ⟨k, m, hk, rfl, rfl, HF⟩ := hrel
      by_cases hlt : k < n
      · obtain ⟨b, off, hA, hb, hc⟩ : ∃ b off, A = some ⟨b, off, none⟩ ∧ b < w.heap.size ∧ ∀ i, i < n → w.cell? ⟨b, off + i, none⟩ = some (.int .i64 (zs.getD i 0)) := by
          rcases HL.out with ⟨_, h0 | h⟩
          · omega
          · exact h
        obtain ⟨b', off', hA', hb', hc'⟩ : ∃ b off, A' = some ⟨b, off, none⟩ ∧ b < w.heap.size ∧ ∀ i, i < n → w.cell? ⟨b, off + i, none⟩ = some (.int .i64 (ys.getD i 0)) := by
          rcases HL'.out with ⟨_, h0 | h⟩
          · omega
          · exact h
        subst hA
        subst hA'
        have ha := hc k hlt
        have ha' := hc' k hlt
        clear hc hc'
        obtain ⟨z, hz⟩ : ∃ z, zs.getD k 0 = z := ⟨_, rfl⟩
        obtain ⟨y, hy⟩ : ∃ y, ys.getD k 0 = y := ⟨_, rfl⟩
        rw [hz] at ha
        rw [hy] at ha'
        have HZ := hid hz
        have HY := hid hy
        clear hz hy
        have hi0 : (k : Int) < (n : Int) := by omega
        by_cases he : z = y
        · subst he
          go_wp2_with fail
          go_quiet (fail)
          go_wp2_with fail
          go_roundw
          case rel => exact ⟨k + 1, _, by omega, by go_num, rfl, hid (fun i hi => by
            rcases Nat.lt_or_ge i k with h | h
            · exact HF.out i h
            · have : i = k := by omega
              subst this; rw [HZ.out, HY.out])⟩
          case measure => simp [intOf]; omega
        · have he' : (z == y) = false := by simp [he]
          have he2 : (z != y) = true := by simp [he]
          have HE := hid he
          clear he
          go_wp2_with fail
          go_quiet (fail)
          go_wp2_with fail
          go_ret
          refine ⟨?_, _, (World.drewN_drewN _ _ _)⟩
          have : zs ≠ ys := fun h => HE.out (by rw [← HZ.out, ← HY.out, h])
          simp [this]
      · obtain rfl : k = n := by omega
        go_wp2_with fail
        go_ret
        refine ⟨?_, _, rfl⟩
        have h1 := HL.out.1
        have h2 := HL'.out.1
        have : zs = ys := by
          apply List.ext_getElem (by omega)
          intro i hi hi'
          have := HF.out i (by omega)
          simpa [hi, hi'] using this
        simp [this]
  · have hb : ((n : Int) != (n' : Int)) = true := by simp; omega
    have hb2 : ((n : Int) == (n' : Int)) = false := by simp; omega
    have HN := hid hne
    clear hne
    go_enter Try.func15, Try.ntmps15
    go_wp2_with fail
    go_ret
    refine ⟨?_, 0, rfl⟩
    have h1 := HL.out.1
    have h2 := HL'.out.1
    have : zs ≠ ys := fun h => HN.out (by rw [← h1, ← h2, h])
    simp [this]

/-- A row of acts, read. -/
def IsOps (w : World) (A : Option Addr) (n : Nat) : Prop :=
  n = 0 ∨ ∃ b off, A = some ⟨b, off, none⟩ ∧ b < w.heap.size ∧ ∀ i, i < n → ∃ x y z : Int, w.cell? ⟨b, off + i * 3, none⟩ = some (.int .i64 x) ∧ w.cell? ⟨b, off + i * 3 + 1, none⟩ = some (.int .i64 y) ∧ w.cell? ⟨b, off + i * 3 + 2, none⟩ = some (.int .i64 z)

theorem Small.try {bs : List Int} (h : Small bs) (h5 : bs.length = 5) (who lock : Int) : Small (tryB bs who lock) ∧ (tryB bs who lock).length = 5 := by
  unfold tryB
  split
  · rename_i he
    have hr : right who lock := by
      unfold tryE at he
      split at he
      · cases he
      · rename_i h; exact Decidable.byContradiction h
    refine ⟨fun i hi => ?_, by simp [h5]⟩
    by_cases e : i = lock.toNat
    · subst e
      have : lock.toNat < bs.length := by omega
      simp [this]
      have := hr.1; omega
    · have := h i hi
      simp only [List.getD_eq_getElem?_getD] at this ⊢
      rw [List.getElem?_set_ne (by omega)]
      exact this
  · exact ⟨h, h5⟩
theorem Small.setNone {bs : List Int} (h : Small bs) (k : Nat) : Small (bs.set k (-1)) := by
  intro i hi
  have := h i hi
  simp only [List.getD_eq_getElem?_getD] at this ⊢
  by_cases e : i = k
  · subst e
    by_cases hl : i < bs.length
    · simp [hl]
    · simp [hl]
  · rw [List.getElem?_set_ne (by omega)]
    exact this
theorem Small.free {bs : List Int} (h : Small bs) (h5 : bs.length = 5) (who lock : Int) : Small (freeB bs who lock) ∧ (freeB bs who lock).length = 5 := by
  unfold freeB
  split
  · exact ⟨h.setNone _, by simp [h5]⟩
  · exact ⟨h, h5⟩
theorem Small.frees {bs : List Int} (h : Small bs) (h5 : bs.length = 5) (l : List Int) : Small (frees bs l) ∧ (frees bs l).length = 5 := by
  refine ⟨?_, by rw [frees_len, h5]⟩
  unfold Lk.frees
  clear h5
  induction l generalizing bs with
  | nil => exact h
  | cons x r ih => exact ih (h.setNone _)

/-- The program's locks and the document's are the same. -/
def Twin (W : World) (p q : Nat) (wr : World) : Prop :=
  ∃ bs, bs.length = 5 ∧ Small bs ∧ Five 48 wr p bs ∧ Five 28 wr q (up bs) ∧ Below W.heap.size W wr ∧ W.heap.size ≤ p ∧ W.heap.size ≤ q ∧ p ≠ q

theorem Five.drew {T : TypeId} {w : World} {p : Nat} {bs : List Int} (h : Five T w p bs) : Five T w.drew p bs := ⟨h.five, h.block⟩
theorem Only.cell {p : Nat} {w w' : World} (h : Only p w w') {a : Addr} (hl : a.block < w.heap.size) (hp : a.block ≠ p) : w'.cell? a = w.cell? a := World.cell?_of_block (w := w) (h.block a.block hl hp)
theorem try_any' (p : Nat) (bs : List Int) (who lock : Int) (w : World) (h : Five 48 w p bs) :
    Calls Try.prog 7 #[.pointer (some ⟨p, 0, none⟩), .int .i64 who, .int .i64 lock] w fun e w' => e = .returned (.int .i64 (tryE bs who lock)) ∧ Five 48 w' p (tryB bs who lock) ∧ Only p w w' :=
  (try_any p bs who lock w h).mono fun _ _ h => ⟨h.1, h.2.1, h.2.2.1⟩
/-- The act lies in block g. -/
def OpAt (W : World) (p q g : Nat) (y z : Int) (wx : World) : Prop :=
  Twin W p q wx ∧ wx.cell? ⟨g, 1, none⟩ = some (.int .i64 y) ∧ wx.cell? ⟨g, 2, none⟩ = some (.int .i64 z) ∧ W.heap.size ≤ g ∧ g ≠ p ∧ g ≠ q
set_option maxRecDepth 100000 in
set_option maxHeartbeats 1600000 in
theorem does_law (A : Option Addr) (n c : Nat) (w : World) (hl : IsOps w A n) (hn : n ≤ 9223372036854775807) :
    Calls Try.prog 3 #[.slice A n c] w fun e w' => e = .returned (.bool true) ∧ Below w.heap.size w w' := by
  have HL := hid hl
  clear hl
  go_enter Try.func3, Try.ntmps3
  go_wp2_with fail
  refine (new_any _).mono ?_; rintro e w1 ⟨rfl, hf, hb⟩
  have F1 := hid hf
  have B1 := hid hb
  have hs1 := hb.size
  have hp1 := hf.lt
  clear hf hb
  go_wp2_with fail
  go_loopw [5] (fun i wr => ∃ k : Nat, k ≤ n ∧ i = .int .i64 k ∧ Twin w w.heap.size w1.heap.size wr) (fun i _ => n - (intOf i).toNat)
  case atStart =>
    refine ⟨0, by omega, rfl, noneHeld, rfl, ?_, F1.out.alloc _, ⟨rfl, heap_alloc_at _ _⟩, B1.out.alloc hs1 _, Nat.le_refl _, hs1, by omega⟩
    intro i hi
    match i, hi with
    | 0, _ => decide
    | 1, _ => decide
    | 2, _ => decide
    | 3, _ => decide
    | 4, _ => decide
  case round =>
    obtain ⟨k, hk, rfl, bs, h5, hsm, hf, hg, hb, hp, hq, hpq⟩ := hrel
    have H5 := hid h5
    have SM := hid hsm
    have F := hid hf
    have G := hid hg
    have B := hid hb
    have hsz := hb.size
    have hflt := hf.lt
    have hglt := hg.lt
    clear h5 hsm hf hg hb
    by_cases hlt : k < n
    · by_cases h100 : k < 100
      · obtain ⟨b, off, hA, hbl, hc⟩ : ∃ b off, A = some ⟨b, off, none⟩ ∧ b < w.heap.size ∧ ∀ i, i < n → ∃ x y z : Int, w.cell? ⟨b, off + i * 3, none⟩ = some (.int .i64 x) ∧ w.cell? ⟨b, off + i * 3 + 1, none⟩ = some (.int .i64 y) ∧ w.cell? ⟨b, off + i * 3 + 2, none⟩ = some (.int .i64 z) := by
          rcases HL.out with h0 | h
          · omega
          · exact h
        subst hA
        obtain ⟨x, y, z, cx, cy, cz⟩ := hc k hlt
        have dx : wr.cell? ⟨b, off + k * 3, none⟩ = some (.int .i64 x) := (B.out.cell (p := ⟨b, off + k * 3, none⟩) hbl).trans cx
        have dy : wr.cell? ⟨b, off + k * 3 + 1, none⟩ = some (.int .i64 y) := (B.out.cell (p := ⟨b, off + k * 3 + 1, none⟩) hbl).trans cy
        have dz : wr.cell? ⟨b, off + k * 3 + 2, none⟩ = some (.int .i64 z) := (B.out.cell (p := ⟨b, off + k * 3 + 2, none⟩) hbl).trans cz
        clear hc cx cy cz
        have gp : wr.heap.size ≠ w.heap.size := by omega
        have gq : wr.heap.size ≠ w1.heap.size := by omega
        go_upto_block 2 with fail
        go_cut [] (fun wx => OpAt w w.heap.size w1.heap.size wr.heap.size y z wx)
        case first =>
          have c1 : ((wr.alloc (.cells #[.int .i64 x, .int .i64 y, .int .i64 z] 30)).drew).cell? ⟨wr.heap.size, 1, none⟩ = some (.int .i64 y) := by go_simp
          have c2 : ((wr.alloc (.cells #[.int .i64 x, .int .i64 y, .int .i64 z] 30)).drew).cell? ⟨wr.heap.size, 2, none⟩ = some (.int .i64 z) := by go_simp
          have C1 := hid c1
          have C2 := hid c2
          clear c1 c2 dx dy dz
          by_cases h0 : x = 0
          · have hb0 : (x == 0) = true := by simp [h0]
            clear h0
            go_wp2_with fail
            go_region_held3 (fun w' => w'.cell? ⟨wr.heap.size, 1, none⟩ = some (.int .i64 y) ∧ w'.cell? ⟨wr.heap.size, 2, none⟩ = some (.int .i64 z)) (first | exact ⟨C1.out, C2.out⟩ | exact ⟨S1.out, S2.out⟩ | exact ⟨S3.out, S4.out⟩)
              (first
               | (go_at_call 7; ((with_reducible refine (try_any' _ bs y z _ ?_).mono ?_)); (focus (exact (F.out.alloc _).drew)); rintro e w2 ⟨rfl, hf2, ho2⟩; have F2 := hid hf2; have O2 := hid ho2; clear hf2 ho2
                  have S1 := hid ((O2.out.cell (a := ⟨wr.heap.size, 1, none⟩) (by simp) gp).trans C1.out)
                  have S2 := hid ((O2.out.cell (a := ⟨wr.heap.size, 2, none⟩) (by simp) gp).trans C2.out)
                  have G2 := hid (O2.out.five ((G.out.alloc _).drew) (Ne.symm hpq)))
               | (go_at_call 8; ((with_reducible refine (rtry_any _ bs y z _ H5.out SM.out ?_).mono ?_)); (focus (exact G2.out)); rintro e w3 ⟨rfl, hg3, ho3⟩; have G3 := hid hg3; have O3 := hid ho3; clear hg3 ho3
                  have S3 := hid ((O3.out.cell (a := ⟨wr.heap.size, 1, none⟩) (by have := O2.out.size; simp at this; show wr.heap.size < _; omega) gq).trans S1.out)
                  have S4 := hid ((O3.out.cell (a := ⟨wr.heap.size, 2, none⟩) (by have := O2.out.size; simp at this; show wr.heap.size < _; omega) gq).trans S2.out)
                  have F3 := hid (O3.out.five F2.out hpq)))
            go_wp2_with fail
            go_meet
            have hsz2 := O2.out.size
            simp at hsz2
            exact ⟨⟨_, (SM.out.try H5.out y z).2, (SM.out.try H5.out y z).1, F3.out, G3.out, Only.below (Only.below (B.out.alloc hsz _).drew O2.out (Nat.le_refl _) (by simp; omega)) O3.out hq (by omega), Nat.le_refl _, hq, hpq⟩, S3.out, S4.out, hsz, gp, gq⟩
          · have hb0 : (x == 0) = false := by simp [h0]
            clear h0
            by_cases h1 : x = 1
            · have hb1 : (x == 1) = true := by simp [h1]
              clear h1
              go_wp2_with fail
              go_region_held3 (fun w' => w'.cell? ⟨wr.heap.size, 1, none⟩ = some (.int .i64 y) ∧ w'.cell? ⟨wr.heap.size, 2, none⟩ = some (.int .i64 z)) (first | exact ⟨C1.out, C2.out⟩ | exact ⟨S1.out, S2.out⟩ | exact ⟨S3.out, S4.out⟩)
                (first
                 | (go_at_call 9; ((with_reducible refine (free_any _ bs y z _ ?_).mono ?_)); (focus (exact (F.out.alloc _).drew)); rintro e w2 ⟨rfl, hf2, ho2⟩; have F2 := hid hf2; have O2 := hid ho2; clear hf2 ho2
                    have S1 := hid ((O2.out.cell (a := ⟨wr.heap.size, 1, none⟩) (by simp) gp).trans C1.out)
                    have S2 := hid ((O2.out.cell (a := ⟨wr.heap.size, 2, none⟩) (by simp) gp).trans C2.out)
                    have G2 := hid (O2.out.five ((G.out.alloc _).drew) (Ne.symm hpq)))
                 | (go_at_call 10; ((with_reducible refine (rfree_any _ bs y z _ H5.out SM.out ?_).mono ?_)); (focus (exact G2.out)); rintro e w3 ⟨rfl, hg3, ho3⟩; have G3 := hid hg3; have O3 := hid ho3; clear hg3 ho3
                    have S3 := hid ((O3.out.cell (a := ⟨wr.heap.size, 1, none⟩) (by have := O2.out.size; simp at this; show wr.heap.size < _; omega) gq).trans S1.out)
                    have S4 := hid ((O3.out.cell (a := ⟨wr.heap.size, 2, none⟩) (by have := O2.out.size; simp at this; show wr.heap.size < _; omega) gq).trans S2.out)
                    have F3 := hid (O3.out.five F2.out hpq)))
              go_wp2_with fail
              go_meet
              have hsz2 := O2.out.size
              simp at hsz2
              exact ⟨⟨_, (SM.out.free H5.out y z).2, (SM.out.free H5.out y z).1, F3.out, G3.out, Only.below (Only.below (B.out.alloc hsz _).drew O2.out (Nat.le_refl _) (by simp; omega)) O3.out hq (by omega), Nat.le_refl _, hq, hpq⟩, S3.out, S4.out, hsz, gp, gq⟩
            · have hb1 : (x == 1) = false := by simp [h1]
              clear h1
              go_wp2_with fail
              go_region_held3 (fun w' => w'.cell? ⟨wr.heap.size, 1, none⟩ = some (.int .i64 y) ∧ w'.cell? ⟨wr.heap.size, 2, none⟩ = some (.int .i64 z)) (first | exact ⟨C1.out, C2.out⟩ | exact ⟨S1.out, S2.out⟩ | exact ⟨S3.out, S4.out⟩)
                (first
                 | (go_at_call 11; ((with_reducible refine (freeall_any _ bs y _ ?_).mono ?_)); (focus (exact (F.out.alloc _).drew)); rintro e w2 ⟨rfl, hf2, ho2⟩; have F2 := hid hf2; have O2 := hid ho2; clear hf2 ho2
                    have S1 := hid ((O2.out.cell (a := ⟨wr.heap.size, 1, none⟩) (by simp) gp).trans C1.out)
                    have S2 := hid ((O2.out.cell (a := ⟨wr.heap.size, 2, none⟩) (by simp) gp).trans C2.out)
                    have G2 := hid (O2.out.five ((G.out.alloc _).drew) (Ne.symm hpq)))
                 | (go_at_call 12; ((with_reducible refine (rfreeall_any _ bs y _ H5.out ?_).mono ?_)); (focus (exact G2.out)); rintro e w3 ⟨rfl, hg3, ho3⟩; have G3 := hid hg3; have O3 := hid ho3; clear hg3 ho3
                    have S3 := hid ((O3.out.cell (a := ⟨wr.heap.size, 1, none⟩) (by have := O2.out.size; simp at this; show wr.heap.size < _; omega) gq).trans S1.out)
                    have S4 := hid ((O3.out.cell (a := ⟨wr.heap.size, 2, none⟩) (by have := O2.out.size; simp at this; show wr.heap.size < _; omega) gq).trans S2.out)
                    have F3 := hid (O3.out.five F2.out hpq)))
              go_wp2_with fail
              go_meet
              have hsz2 := O2.out.size
              simp at hsz2
              exact ⟨⟨_, (SM.out.frees H5.out (heldL bs y)).2, (SM.out.frees H5.out (heldL bs y)).1, F3.out, G3.out, Only.below (Only.below (B.out.alloc hsz _).drew O2.out (Nat.le_refl _) (by simp; omega)) O3.out hq (by omega), Nat.le_refl _, hq, hpq⟩, S3.out, S4.out, hsz, gp, gq⟩
        case rest =>
          have Q := hid hcut
          clear hcut
          obtain ⟨⟨bs', h5', hsm', hf', hg', hb', -, -, -⟩, q1, q2, hgs, gp', gq'⟩ := Q.out
          have H5' := hid h5'
          have SM' := hid hsm'
          have F' := hid hf'
          have G' := hid hg'
          have B' := hid hb'
          have fl' := hf'.lt
          have gl' := hg'.lt
          have ol' : wr.heap.size < wc.heap.size := World.block_lt_of_cell? wc _ q1
          have Q1 := hid q1
          have Q2 := hid q2
          clear h5' hsm' hf' hg' hb' q1 q2 Q dx dy dz
          go_upto_region 17 with fail
          go_cut [87] (fun v wx => v = .bool false ∧ Twin w w.heap.size w1.heap.size wx)
          case first =>
            go_region_held3 (fun w' => w'.cell? ⟨wr.heap.size, 1, none⟩ = some (.int .i64 y) ∧ w'.cell? ⟨wr.heap.size, 2, none⟩ = some (.int .i64 z)) (first | exact ⟨Q1.out, Q2.out⟩ | exact ⟨S1.out, S2.out⟩ | exact ⟨S3.out, S4.out⟩ | exact ⟨S5.out, S6.out⟩)
              (first
               | (go_at_call 13; ((with_reducible refine (holder_any _ bs' z _ ?_).mono ?_)); (focus (exact F'.out.drew)); rintro e w2 ⟨rfl, rfl⟩)
               | (go_at_call 14; ((with_reducible refine (rholder_any _ bs' z _ H5'.out SM'.out ?_).mono ?_)); (focus (exact G'.out.drew)); rintro e w2 ⟨rfl, rfl⟩)
               | (go_at_call 16; ((with_reducible refine (held_any _ bs' y _ ?_).mono ?_)); (focus (exact F'.out.drew)); rintro e w2 ⟨A2, n2, c2, rfl, hn2, hi2, hb2⟩
                  have S1 := hid ((hb2.cell (p := ⟨wr.heap.size, 1, none⟩) ol').trans Q1.out)
                  have S2 := hid ((hb2.cell (p := ⟨wr.heap.size, 2, none⟩) ol').trans Q2.out)
                  have I2 := hid hi2
                  have B2 := hid hb2
                  clear hi2 hb2)
               | (go_at_call 17; ((with_reducible refine (rheld_own _ bs' y _ H5'.out ?_).mono ?_)); (focus (exact G'.out.drew.other (B2.out.block _ gl'))); rintro e w3 ⟨A3, n3, c3, rfl, hn3, hi3, hb3, -⟩
                  have ol3 : wr.heap.size < w2.heap.size := Nat.lt_of_lt_of_le ol' B2.out.size
                  have S3 := hid ((hb3.cell (p := ⟨wr.heap.size, 1, none⟩) ol3).trans S1.out)
                  have S4 := hid ((hb3.cell (p := ⟨wr.heap.size, 2, none⟩) ol3).trans S2.out)
                  have I3 := hid hi3
                  have I2' := hid (I2.out.below hb3)
                  have B3 := hid hb3
                  clear hi3 hb3)
               | (go_at_call 15; ((with_reducible refine (same_any _ _ _ _ _ _ (heldL bs' y) (heldL bs' y) _ ?_ ?_ ?_ ?_).mono ?_)); (focus (exact I2'.out)); (focus (exact I3.out)); (focus omega); (focus omega); rintro e w4 ⟨rfl, m4, rfl⟩
                  rw [decide_eq_true rfl]
                  have S5 := hid (show (w3.drewN m4).cell? ⟨wr.heap.size, 1, none⟩ = some (.int .i64 y) from S3.out)
                  have S6 := hid (show (w3.drewN m4).cell? ⟨wr.heap.size, 2, none⟩ = some (.int .i64 z) from S4.out)))
            go_wp2_with fail
            go_meet
            have z2 := B2.out.size
            have z3 := B3.out.size
            simp at z2
            have hB2 := Below.trans (B'.out.drew) (B2.out.mono (show w.heap.size ≤ wc.drew.heap.size by simp; omega))
            have hB3 := hB2.trans (B3.out.mono (by omega))
            exact ⟨rfl, bs', H5'.out, SM'.out, ((F'.out.drew.other (B2.out.block _ fl')).other (B3.out.block _ (by omega))).drewN _, ((G'.out.drew.other (B2.out.block _ gl')).other (B3.out.block _ (by omega))).drewN _, Below.drewN' hB3 _, Nat.le_refl _, hq, hpq⟩
          case rest =>
            obtain ⟨rfl, tw⟩ := hcut
            have TW := hid tw
            clear tw
            go_wp2_with fail
            go_roundw
            case rel => exact ⟨k + 1, by omega, by go_num, TW.out⟩
            case measure => simp [intOf]; omega
      · go_wp2_with fail
        go_ret
        exact ⟨rfl, B.out⟩
    · obtain rfl : k = n := by omega
      go_wp2_with fail
      go_ret
      exact ⟨rfl, B.out⟩
end Go.Proofs.Ytpemlpahpbpbeaa.Lk
