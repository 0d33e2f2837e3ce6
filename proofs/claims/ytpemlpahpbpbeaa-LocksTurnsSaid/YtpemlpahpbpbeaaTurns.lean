/- LocksTurns: two that take the same locks, rising, each giving all back when it has them, both come to an end, in whatever turns. No condition. -/
import Derived.Test.YtpemlpahpbpbeaaPure
import Derived.Deep.CutBlock
namespace Go.Proofs.Ytpemlpahpbpbeaa.Lk
open Go.RowKit
set_option linter.unusedVariables false
set_option linter.unusedSimpArgs false
/-- A row of turns, read. -/
def IsBools (w : World) (A : Option Addr) (n : Nat) : Prop :=
  n = 0 ∨ ∃ b off, A = some ⟨b, off, none⟩ ∧ b < w.heap.size ∧ ∀ i, i < n → ∃ x : Bool, w.cell? ⟨b, off + i, none⟩ = some (.bool x)
theorem Both.cell {p q : Nat} {w w' : World} (h : Both p q w w') {a : Addr} (hl : a.block < w.heap.size) (hp : a.block ≠ p) (hq : a.block ≠ q) : w'.cell? a = w.cell? a := World.cell?_of_block (w := w) (h.block a.block hl hp hq)
theorem IsInts.both {w w' : World} {p q n : Nat} {A : Option Addr} {zs : List Int} (h : IsInts w A n zs) (ho : Both p q w w') (hne : ∀ ad, A = some ad → n ≠ 0 → ad.block ≠ p ∧ ad.block ≠ q) : IsInts w' A n zs := by
  obtain ⟨h1, h2⟩ := h
  refine ⟨h1, ?_⟩
  rcases h2 with h2 | ⟨b, off, h3, h4, h5⟩
  · exact .inl h2
  · by_cases hn : n = 0
    · exact .inl hn
    · refine .inr ⟨b, off, h3, Nat.lt_of_lt_of_le h4 ho.size, fun i hi => ?_⟩
      rw [← h5 i hi]
      exact World.cell?_of_block (w := w) (ho.block b h4 (hne _ h3 hn).1 (hne _ h3 hn).2)
/-- Where all lies: the locks, the places, the lists. -/
structure Lie where
  p : Nat
  q : Nat
  g : Nat
  A0 : Option Addr
  A1 : Option Addr
  n0 : Nat
  n1 : Nat
  c0 : Nat
  c1 : Nat
  L : List Int
  M : List Int
/-- What does not turn. -/
structure Lie.Ok (W : World) (l : Lie) : Prop where
  pq : l.p ≠ l.q
  gp : l.g ≠ l.p
  gq : l.g ≠ l.q
  wp : W.heap.size ≤ l.p
  wq : W.heap.size ≤ l.q
  b0 : ∀ ad, l.A0 = some ad → l.n0 ≠ 0 → ad.block ≠ l.p ∧ ad.block ≠ l.q
  b1 : ∀ ad, l.A1 = some ad → l.n1 ≠ 0 → ad.block ≠ l.p ∧ ad.block ≠ l.q
  rL : Rise l.L 5
  rM : Rise l.M 5
/-- What the loops keep. -/
structure TurnRel (W : World) (l : Lie) (bs : List Int) (a b : Nat) (wr : World) : Prop where
  inv : Inv l.L l.M bs a b
  five : Five 48 wr l.p bs
  at_ : At wr l.q a b
  one : IsInts wr l.A0 l.n0 l.L
  two : IsInts wr l.A1 l.n1 l.M
  below : Below W.heap.size W wr
  c0 : wr.cell? ⟨l.g, 0, none⟩ = some (.slice l.A0 l.n0 l.c0)
  c1 : wr.cell? ⟨l.g, 1, none⟩ = some (.slice l.A1 l.n1 l.c1)
theorem TurnRel.zero {W wr w' : World} {l : Lie} {bs : List Int} {a b : Nat} (K : l.Ok W) (h : TurnRel W l bs a b wr) (hf : Five 48 w' l.p (stB 0 l.L bs a)) (ha : At w' l.q (stA 0 l.L bs a) b) (hb : Both l.p l.q wr w') :
    TurnRel W l (stB 0 l.L bs a) (stA 0 l.L bs a) b w' := by
  have g1 := World.block_lt_of_cell? wr _ h.c0
  exact ⟨h.inv.zero K.rL, hf, ha, h.one.both hb K.b0, h.two.both hb K.b1, hb.below h.below K.wp K.wq h.below.size, (hb.cell (a := ⟨l.g, 0, none⟩) g1 K.gp K.gq).trans h.c0, (hb.cell (a := ⟨l.g, 1, none⟩) g1 K.gp K.gq).trans h.c1⟩
theorem TurnRel.one' {W wr w' : World} {l : Lie} {bs : List Int} {a b : Nat} (K : l.Ok W) (h : TurnRel W l bs a b wr) (hf : Five 48 w' l.p (stB 1 l.M bs b)) (ha : At w' l.q a (stA 1 l.M bs b)) (hb : Both l.p l.q wr w') :
    TurnRel W l (stB 1 l.M bs b) a (stA 1 l.M bs b) w' := by
  have g1 := World.block_lt_of_cell? wr _ h.c0
  exact ⟨h.inv.one' K.rM, hf, ha, h.one.both hb K.b0, h.two.both hb K.b1, hb.below h.below K.wp K.wq h.below.size, (hb.cell (a := ⟨l.g, 0, none⟩) g1 K.gp K.gq).trans h.c0, (hb.cell (a := ⟨l.g, 1, none⟩) g1 K.gp K.gq).trans h.c1⟩
/-- A step of the first, as the loops take it. -/
theorem turn0 {W : World} {l : Lie} (K : l.Ok W) (bs : List Int) (a b : Nat) (w : World) (h : TurnRel W l bs a b w) :
    Calls Try.prog 20 #[.pointer (some ⟨l.p, 0, none⟩), .int .i64 0, .agg #[.slice l.A0 l.n0 l.c0, .slice l.A1 l.n1 l.c1], .pointer (some ⟨l.q, 0, none⟩)] w fun e w' => e = .returned (.tuple #[]) ∧ TurnRel W l (stB 0 l.L bs a) (stA 0 l.L bs a) b w' := by
  have hL := K.rL.len
  have hl : l.L.length = l.n0 := h.one.1
  refine (step0 l.p l.q bs a b l.n0 l.c0 l.n1 l.c1 l.A0 l.A1 l.L w h.five h.at_ h.one K.rL.1 K.b0 (by omega) (by have := h.inv.oneLe; omega) K.pq).mono ?_
  rintro e w' ⟨rfl, hf, ha, hb⟩
  exact ⟨rfl, h.zero K hf ha hb⟩
theorem turn1 {W : World} {l : Lie} (K : l.Ok W) (bs : List Int) (a b : Nat) (w : World) (h : TurnRel W l bs a b w) :
    Calls Try.prog 20 #[.pointer (some ⟨l.p, 0, none⟩), .int .i64 1, .agg #[.slice l.A0 l.n0 l.c0, .slice l.A1 l.n1 l.c1], .pointer (some ⟨l.q, 0, none⟩)] w fun e w' => e = .returned (.tuple #[]) ∧ TurnRel W l (stB 1 l.M bs b) a (stA 1 l.M bs b) w' := by
  have hL := K.rM.len
  have hl : l.M.length = l.n1 := h.two.1
  refine (step1 l.p l.q bs a b l.n0 l.c0 l.n1 l.c1 l.A0 l.A1 l.M w h.five h.at_ h.two K.rM.1 K.b1 (by omega) (by have := h.inv.twoLe; omega) K.pq).mono ?_
  rintro e w' ⟨rfl, hf, ha, hb⟩
  exact ⟨rfl, h.one' K hf ha hb⟩
/-- Where the second loop stands at its round i. -/
def Round (W : World) (l : Lie) (i : Nat) (wr : World) : Prop :=
  ∃ bs a b, Inv l.L l.M bs a b ∧ ((a = l.L.length + 1 ∧ b = l.M.length + 1) ∨ i / 2 ≤ a + b) ∧
    ((i % 2 = 0 ∧ TurnRel W l bs a b wr) ∨ (i % 2 = 1 ∧ TurnRel W l (stB 0 l.L bs a) (stA 0 l.L bs a) b wr))
set_option maxRecDepth 100000 in
set_option maxHeartbeats 4000000 in
theorem turns_law (Aa : Option Addr) (na ca : Nat) (za : List Int) (Ab : Option Addr) (nb cb : Nat) (zb : List Int) (Ax : Option Addr) (nt ct : Nat) (w : World)
    (ha : IsInts w Aa na za) (hna : na ≤ 9223372036854775807) (hb : IsInts w Ab nb zb) (hnb : nb ≤ 9223372036854775807) (ht : IsBools w Ax nt) (hnt : nt ≤ 9223372036854775807) :
    Calls Try.prog 5 #[.slice Aa na ca, .slice Ab nb cb, .slice Ax nt ct] w fun e w' => e = .returned (.bool true) ∧ Below w.heap.size w w' := by
  have HA := hid ha
  have HB := hid hb
  have HT := hid ht
  clear ha hb ht
  go_enter Try.func5, Try.ntmps5
  go_wp2_with fail
  refine (works_any _).mono ?_; rintro e w0 ⟨rfl, hb⟩
  have B0 := hid hb
  have hs0 := hb.size
  clear hb
  go_wp2_with fail
  refine (new_any _).mono ?_; rintro e w1 ⟨rfl, hf, hb⟩
  have F1 := hid hf
  have B1 := hid (B0.out.trans (hb.mono hs0))
  have hs1 := hb.size
  have hp1 := hf.lt
  clear hf hb
  go_wp2_with fail
  refine (rising_any _ _ _ za _ (HA.out.below B1.out) hna).mono ?_; rintro e w2 ⟨v, rfl, A0, n0, c0, L, rfl, hl0, hn0, ho0, hb0, hr0⟩
  have I0 := hid (own_ints hl0 ho0)
  have O0 := hid ho0
  have R0 := hid hr0
  have N0 := hid hl0
  have B2 := hid (B1.out.trans (hb0.mono B1.out.size))
  have F2 := hid (F1.out.other (hb0.block _ hp1))
  have hs2 := hb0.size
  clear ho0 hr0 hl0 hb0
  go_wp2_with fail
  refine (rising_any _ _ _ zb _ (HB.out.below B2.out) hnb).mono ?_; rintro e w3 ⟨v, rfl, A1, n1, c1, M, rfl, hl1, hn1, ho1, hb1, hr1⟩
  have I1 := hid (own_ints hl1 ho1)
  have I0' := hid (I0.out.below hb1)
  have O1 := hid ho1
  have R1 := hid hr1
  have N1 := hid hl1
  have B3 := hid (B2.out.trans (hb1.mono B2.out.size))
  have F3 := hid (F2.out.other (hb1.block _ (by omega)))
  have hs3 := hb1.size
  clear ho1 hr1 hl1 hb1
  have k0 : ∀ ad, A0 = some ad → n0 ≠ 0 → ad.block ≠ w0.heap.size ∧ ad.block ≠ w3.heap.size + 1 := by
    intro ad had hn
    obtain ⟨_, h2 | ⟨g, cap, cur, hv, hbg, hg, _⟩⟩ := O0.out
    · exact absurd h2.2 hn
    · cases hv; cases had
      have := (Array.getElem?_eq_some_iff.1 hg).1
      simp only; omega
  have k1 : ∀ ad, A1 = some ad → n1 ≠ 0 → ad.block ≠ w0.heap.size ∧ ad.block ≠ w3.heap.size + 1 := by
    intro ad had hn
    obtain ⟨_, h2 | ⟨g, cap, cur, hv, hbg, hg, _⟩⟩ := O1.out
    · exact absurd h2.2 hn
    · cases hv; cases had
      have := (Array.getElem?_eq_some_iff.1 hg).1
      simp only; omega
  obtain ⟨l, hl⟩ : ∃ l : Lie, l = ⟨w0.heap.size, w3.heap.size + 1, w3.heap.size, A0, A1, n0, n1, c0, c1, L, M⟩ := ⟨_, rfl⟩
  have K : l.Ok w := by subst hl; exact ⟨by simp; omega, by simp; omega, by simp, by simpa using hs0, by simp; omega, k0, k1, R0.out, R1.out⟩
  have T0 : TurnRel w l noneHeld 0 0 ((w3.alloc (.cells #[.slice l.A0 l.n0 l.c0, .slice l.A1 l.n1 l.c1] 42)).alloc (.cells #[.int .i64 0, .int .i64 0] 43)) := by
    subst hl
    exact ⟨Inv.begin L M, (F3.out.alloc _).alloc _, by unfold Lk.At; simp only; rw [show w3.heap.size + 1 = (w3.alloc (.cells #[.slice A0 n0 c0, .slice A1 n1 c1] 42)).heap.size by simp]; exact heap_alloc_at _ _, (I0'.out.alloc _).alloc _, (I1.out.alloc _).alloc _,
      (B3.out.alloc B3.out.size _).alloc (by simp; have := B3.out.size; omega) _, by go_simp, by go_simp⟩
  have T0' := hid T0
  have K' := hid K
  have HLie := hid hl
  have lp : l.p = w0.heap.size := by rw [hl]
  have lq : l.q = w3.heap.size + 1 := by rw [hl]
  have lg : l.g = w3.heap.size := by rw [hl]
  have l0 : l.A0 = A0 ∧ l.n0 = n0 ∧ l.c0 = c0 ∧ l.A1 = A1 ∧ l.n1 = n1 ∧ l.c1 = c1 := by rw [hl]; exact ⟨rfl, rfl, rfl, rfl, rfl, rfl⟩
  obtain ⟨e1, e2, e3, e4, e5, e6⟩ := l0
  clear T0 K k0 k1 hl F1 F2 F3 I0 I1 I0' O0 O1 R0 R1 B1 B2
  go_upto_block 0 with fail
  rw [← lp, ← lq, ← lg, ← e1, ← e2, ← e3, ← e4, ← e5, ← e6]
  clear lp lq lg e1 e2 e3 e4 e5 e6
  go_cut [] (fun wx => ∃ bs a b, TurnRel w l bs a b wx)
  case first =>
    go_wp2_with fail
    go_loopw [10] (fun iv wr => ∃ (i : Nat) (bs : List Int) (a b : Nat), i ≤ nt ∧ iv = .int .i64 i ∧ TurnRel w l bs a b wr) (fun iv _ => nt - (intOf iv).toNat)
    case atStart => exact ⟨0, noneHeld, 0, 0, by omega, rfl, T0'.out⟩
    case round =>
      obtain ⟨i, bs, a, b, hi, rfl, ht⟩ := hrel
      have T := hid ht
      have hbl := ht.below
      have x0 := ht.c0
      have x1 := ht.c1
      have BL := hid hbl
      clear ht hbl
      by_cases hin : i < nt
      · by_cases h100 : i < 100
        · obtain ⟨bb, off, hAe, hbl, hc⟩ : ∃ b off, Ax = some ⟨b, off, none⟩ ∧ b < w.heap.size ∧ ∀ i, i < nt → ∃ x : Bool, w.cell? ⟨b, off + i, none⟩ = some (.bool x) := by
            rcases HT.out with h0 | h
            · omega
            · exact h
          subst hAe
          obtain ⟨x, hx⟩ := hc i hin
          have cx := (BL.out.cell (p := ⟨bb, off + i, none⟩) hbl).trans hx
          clear hc hx
          cases x with
          | true =>
            go_wp2_with fail
            refine (turn1 K'.out bs a b _ T.out).mono ?_
            rintro e w' ⟨rfl, ht'⟩
            have T' := hid ht'
            clear ht'
            go_wp2_with fail
            go_roundw
            case rel => exact ⟨i + 1, _, _, _, by omega, by go_num, T'.out⟩
            case measure => simp [intOf]; omega
          | false =>
            go_wp2_with fail
            refine (turn0 K'.out bs a b _ T.out).mono ?_
            rintro e w' ⟨rfl, ht'⟩
            have T' := hid ht'
            clear ht'
            go_wp2_with fail
            go_roundw
            case rel => exact ⟨i + 1, _, _, _, by omega, by go_num, T'.out⟩
            case measure => simp [intOf]; omega
        · go_wp2_with fail
          go_meet
          exact ⟨bs, a, b, T.out⟩
      · obtain rfl : i = nt := by omega
        go_wp2_with fail
        go_meet
        exact ⟨bs, a, b, T.out⟩
  case rest =>
    obtain ⟨bs, a, b, ht⟩ := hcut
    have T := hid ht
    clear ht
    go_wp2_with fail
    go_loopw [12] (fun iv wr => ∃ i : Nat, i ≤ 30 ∧ iv = .int .i64 i ∧ Round w l i wr) (fun iv _ => 30 - (intOf iv).toNat)
    case atStart => exact ⟨0, by omega, rfl, bs, a, b, T.out.inv, .inr (by omega), .inl ⟨rfl, T.out⟩⟩
    case round =>
      clear T
      obtain ⟨i, hi, rfl, bs, a, b, hinv, hmu, hev⟩ := hrel
      have IV := hid hinv
      have MU := hid hmu
      clear hinv hmu
      by_cases hin : i < 30
      · rcases hev with ⟨hev, ht⟩ | ⟨hev, ht⟩
        · have T := hid ht
          have x0 := ht.c0
          have x1 := ht.c1
          have EV := hid hev
          have hm : (i : Int) % 2 = 0 := by omega
          have hm' : i % 2 = 0 := hev
          clear ht hev
          go_wp2_with fail
          refine (turn0 K'.out bs a b _ T.out).mono ?_
          rintro e w' ⟨rfl, ht'⟩
          have T' := hid ht'
          clear ht'
          go_wp2_with fail
          go_roundw
          case rel => exact ⟨i + 1, by omega, by go_num, bs, a, b, IV.out, by rcases MU.out with h | h; exact .inl h; exact .inr (by have := EV.out; omega), .inr ⟨by have := EV.out; omega, T'.out⟩⟩
          case measure => simp [intOf]; omega
        · have T := hid ht
          have x0 := ht.c0
          have x1 := ht.c1
          have EV := hid hev
          have hm : (i : Int) % 2 = 1 := by omega
          have hm' : i % 2 = 1 := hev
          clear ht hev
          go_wp2_with fail
          refine (turn1 K'.out _ _ b _ T.out).mono ?_
          rintro e w' ⟨rfl, ht'⟩
          have T' := hid ht'
          clear ht'
          go_wp2_with fail
          go_roundw
          case rel =>
            refine ⟨i + 1, by omega, by go_num, _, _, _, T'.out.inv, ?_, .inl ⟨by have := EV.out; omega, T'.out⟩⟩
            rcases both_turn IV.out K'.out.rL K'.out.rM with ⟨h1, h2⟩ | h
            · left
              have := T'.out.inv.oneLe
              have := T'.out.inv.twoLe
              have h3 : a ≤ stA 0 l.L bs a := by unfold stA; split; split <;> omega; split <;> omega
              have h4 : b ≤ stA 1 l.M (stB 0 l.L bs a) b := by unfold stA; split; split <;> omega; split <;> omega
              omega
            · rcases MU.out with h' | h'
              · left
                have := T'.out.inv.oneLe
                have := T'.out.inv.twoLe
                omega
              · right
                have := EV.out
                omega
          case measure => simp [intOf]; omega
      · obtain rfl : i = 30 := by omega
        rcases hev with ⟨hev, ht⟩ | ⟨hev, ht⟩
        · have T := hid ht
          have x0 := ht.c0
          have x1 := ht.c1
          have ca := ht.at_.cell0
          have cb := ht.at_.cell1
          have hL := K'.out.rL.len
          have hM := K'.out.rM.len
          have en : l.L.length = l.n0 := ht.one.1
          have em : l.M.length = l.n1 := ht.two.1
          have q1 := IV.out.oneLe
          have q2 := IV.out.twoLe
          have q3 := MU.out
          have r1 : l.n0 < a := by omega
          have r2 : l.n1 < b := by omega
          have d1 : decide ((l.n0 : Int) < (a : Int)) = true := by simp; omega
          have d2 : decide ((l.n1 : Int) < (b : Int)) = true := by simp; omega
          clear ht en em q3 hev hL hM q1 q2
          go_wp2_with fail
          go_ret
          exact ⟨rfl, T.out.below⟩
        · omega
end Go.Proofs.Ytpemlpahpbpbeaa.Lk
